/- A certified evaluator for the walked functions, and their contracts, for the laws of the variables. -/
import Derived.Shelf.SlIter.Nil
import Derived.Shelf.SortM.Plain
import Derived.Shelf.SortM.SortNone
import Derived.Ground.GgzProg
import Derived.Ground.SlgmProg
import Derived.Test.YtnmlodkomklpfaaGreatProg
import Derived.Test.YtnmlodkomklpfaaGreatLI
import Derived.Test.YtnmlodkomklpfaaGreatLJ
import Derived.Test.YtnmlodkomklpfaaGreatLG
import Derived.Test.YtnmlodkomklpfaaGreatLH
import Derived.Test.YtnmlodkomklpfaaGreatLF
set_option linter.unusedVariables false
set_option linter.unusedSimpArgs false
namespace Go.Proofs
open Go.Shelf
set_option maxRecDepth 100000 in
def Tryz.keys36_ren : Go.Shelf.Ren := ⟨fun | 7 => 38 | 10 => 59 | n => n, fun | 23 => 62 | 26 => 9 | 3 => 4 | 28 => 66 | 0 => 0 | 27 => 65 | 33 => 80 | 4 => 4 | n => n, fun | n => n⟩
set_option maxRecDepth 100000 in
theorem Tryz.keys36 : Go.Proofs.SlLaysZ.n7 Tryz.prog Tryz.keys36_ren := {
  mixed := by kernel_rfl
  f7 := ⟨Tryz.f38.name, by decide, Tryz.func38.trans (congrArg some (by kernel_rfl))⟩
  f10 := ⟨Tryz.f59.name, by decide, Tryz.func59.trans (congrArg some (by kernel_rfl))⟩
  t0 := Tryz.underlying0
  a0 := Tryz.isAgg0
  z0 := Tryz.sizeOf0
  v0 := Tryz.zeroValue0
  t4 := Tryz.underlying4
  a4 := Tryz.isAgg4
  z4 := Tryz.sizeOf4
  v4 := Tryz.zeroValue4
  t23 := Tryz.underlying62
  a23 := Tryz.isAgg62
  z23 := Tryz.sizeOf62
  v23 := Tryz.zeroValue62
  t26 := Tryz.underlying9
  a26 := Tryz.isAgg9
  z26 := Tryz.sizeOf9
  v26 := Tryz.zeroValue9
  t27 := Tryz.underlying65
  a27 := Tryz.isAgg65
  z27 := Tryz.sizeOf65
  v27 := Tryz.zeroValue65
  t28 := Tryz.underlying66
  a28 := Tryz.isAgg66
  z28 := Tryz.sizeOf66
  v28 := Tryz.zeroValue66
  t33 := Tryz.underlying80
  a33 := Tryz.isAgg80
  z33 := Tryz.sizeOf80
  v33 := Tryz.zeroValue80 }
set_option maxRecDepth 100000 in
def Tryz.sorted35_ren : Go.Shelf.Ren := ⟨fun | 6 => 37 | 8 => 57 | 9 => 58 | 11 => 69 | 13 => 71 | 12 => 70 | 23 => 87 | 24 => 88 | 14 => 78 | 15 => 79 | 16 => 80 | 17 => 81 | 18 => 82 | 19 => 83 | 20 => 84 | 21 => 85 | 22 => 86 | 25 => 102 | 26 => 103 | 27 => 104 | 28 => 105 | 29 => 106 | 30 => 107 | 31 => 116 | n => n, fun | 26 => 9 | 28 => 66 | 24 => 31 | 0 => 0 | 3 => 3 | 37 => 105 | 48 => 123 | 50 => 125 | 4 => 4 | 40 => 116 | 39 => 115 | 45 => 120 | 5 => 5 | 9 => 9 | 51 => 130 | 55 => 134 | 57 => 139 | 58 => 140 | 33 => 80 | n => n, fun | n => n⟩
set_option maxRecDepth 100000 in
theorem Tryz.sorted35 : Go.Proofs.SlLaysZ.n6 Tryz.prog Tryz.sorted35_ren := {
  mixed := by kernel_rfl
  f6 := ⟨Tryz.f37.name, by decide, Tryz.func37.trans (congrArg some (by kernel_rfl))⟩
  f8 := ⟨Tryz.f57.name, by decide, Tryz.func57.trans (congrArg some (by kernel_rfl))⟩
  f11 := ⟨Tryz.f69.name, by decide, Tryz.func69.trans (congrArg some (by kernel_rfl))⟩
  t0 := Tryz.underlying0
  a0 := Tryz.isAgg0
  z0 := Tryz.sizeOf0
  v0 := Tryz.zeroValue0
  t24 := Tryz.underlying31
  a24 := Tryz.isAgg31
  z24 := Tryz.sizeOf31
  v24 := Tryz.zeroValue31
  t26 := Tryz.underlying9
  a26 := Tryz.isAgg9
  z26 := Tryz.sizeOf9
  v26 := Tryz.zeroValue9
  t28 := Tryz.underlying66
  a28 := Tryz.isAgg66
  z28 := Tryz.sizeOf66
  v28 := Tryz.zeroValue66
  i26 := by kernel_rfl }
set_option maxRecDepth 100000 in
def Tryz.sort58_ren : Go.Shelf.Ren := ⟨fun | 6 => 58 | 8 => 71 | 9 => 70 | 19 => 87 | 20 => 88 | 21 => 78 | 22 => 79 | 23 => 80 | 24 => 81 | 25 => 82 | 26 => 83 | 27 => 84 | 28 => 85 | 29 => 86 | 36 => 102 | 31 => 103 | 32 => 104 | 37 => 105 | 38 => 106 | 39 => 107 | 41 => 116 | n => n, fun | 27 => 31 | 29 => 9 | 3 => 3 | 32 => 105 | 26 => 31 | 0 => 0 | 44 => 123 | 46 => 125 | 4 => 4 | 36 => 116 | 35 => 115 | 41 => 120 | 5 => 5 | 9 => 9 | 53 => 130 | 57 => 134 | 63 => 139 | 64 => 140 | n => n, fun | n => n⟩
set_option maxRecDepth 100000 in
theorem Tryz.sort58 : Go.Proofs.SlLaysM.n6 Tryz.prog Tryz.sort58_ren := {
  mixed := by kernel_rfl
  f6 := ⟨Tryz.f58.name, by decide, Tryz.func58.trans (congrArg some (by kernel_rfl))⟩
  f8 := Tryz.func71.trans (congrArg some (by kernel_rfl))
  f9 := ⟨Tryz.f70.name, by decide, Tryz.func70.trans (congrArg some (by kernel_rfl))⟩
  f19 := Tryz.func87.trans (congrArg some (by kernel_rfl))
  f20 := Tryz.func88.trans (congrArg some (by kernel_rfl))
  f21 := ⟨Tryz.f78.name, by decide, Tryz.func78.trans (congrArg some (by kernel_rfl))⟩
  f22 := ⟨Tryz.f79.name, by decide, Tryz.func79.trans (congrArg some (by kernel_rfl))⟩
  f23 := ⟨Tryz.f80.name, by decide, Tryz.func80.trans (congrArg some (by kernel_rfl))⟩
  f24 := ⟨Tryz.f81.name, by decide, Tryz.func81.trans (congrArg some (by kernel_rfl))⟩
  f25 := ⟨Tryz.f82.name, by decide, Tryz.func82.trans (congrArg some (by kernel_rfl))⟩
  f26 := ⟨Tryz.f83.name, by decide, Tryz.func83.trans (congrArg some (by kernel_rfl))⟩
  f27 := ⟨Tryz.f84.name, by decide, Tryz.func84.trans (congrArg some (by kernel_rfl))⟩
  f28 := ⟨Tryz.f85.name, by decide, Tryz.func85.trans (congrArg some (by kernel_rfl))⟩
  f29 := ⟨Tryz.f86.name, by decide, Tryz.func86.trans (congrArg some (by kernel_rfl))⟩
  f31 := Tryz.func103.trans (congrArg some (by kernel_rfl))
  f32 := Tryz.func104.trans (congrArg some (by kernel_rfl))
  f36 := ⟨Tryz.f102.name, by decide, Tryz.func102.trans (congrArg some (by kernel_rfl))⟩
  f37 := ⟨Tryz.f105.name, by decide, Tryz.func105.trans (congrArg some (by kernel_rfl))⟩
  f38 := ⟨Tryz.f106.name, by decide, Tryz.func106.trans (congrArg some (by kernel_rfl))⟩
  f39 := ⟨Tryz.f107.name, by decide, Tryz.func107.trans (congrArg some (by kernel_rfl))⟩
  f41 := ⟨Tryz.f116.name, by decide, Tryz.func116.trans (congrArg some (by kernel_rfl))⟩
  t0 := Tryz.underlying0
  a0 := Tryz.isAgg0
  z0 := Tryz.sizeOf0
  v0 := Tryz.zeroValue0
  t3 := Tryz.underlying3
  a3 := Tryz.isAgg3
  z3 := Tryz.sizeOf3
  v3 := Tryz.zeroValue3
  t4 := Tryz.underlying4
  a4 := Tryz.isAgg4
  z4 := Tryz.sizeOf4
  v4 := Tryz.zeroValue4
  t5 := Tryz.underlying5
  a5 := Tryz.isAgg5
  z5 := Tryz.sizeOf5
  v5 := Tryz.zeroValue5
  t9 := Tryz.underlying9
  a9 := Tryz.isAgg9
  z9 := Tryz.sizeOf9
  v9 := Tryz.zeroValue9
  t26 := Tryz.underlying31
  a26 := Tryz.isAgg31
  z26 := Tryz.sizeOf31
  v26 := Tryz.zeroValue31
  t27 := Tryz.underlying31
  a27 := Tryz.isAgg31
  z27 := Tryz.sizeOf31
  v27 := Tryz.zeroValue31
  t29 := Tryz.underlying9
  a29 := Tryz.isAgg9
  z29 := Tryz.sizeOf9
  v29 := Tryz.zeroValue9
  t32 := Tryz.underlying105
  a32 := Tryz.isAgg105
  z32 := Tryz.sizeOf105
  v32 := Tryz.zeroValue105
  t35 := Tryz.underlying115
  a35 := Tryz.isAgg115
  z35 := Tryz.sizeOf115
  v35 := Tryz.zeroValue115
  t36 := Tryz.underlying116
  a36 := Tryz.isAgg116
  z36 := Tryz.sizeOf116
  v36 := Tryz.zeroValue116
  t41 := Tryz.underlying120
  a41 := Tryz.isAgg120
  z41 := Tryz.sizeOf120
  v41 := Tryz.zeroValue120
  t44 := Tryz.underlying123
  a44 := Tryz.isAgg123
  z44 := Tryz.sizeOf123
  v44 := Tryz.zeroValue123
  t46 := Tryz.underlying125
  a46 := Tryz.isAgg125
  z46 := Tryz.sizeOf125
  v46 := Tryz.zeroValue125
  t53 := Tryz.underlying130
  a53 := Tryz.isAgg130
  z53 := Tryz.sizeOf130
  v53 := Tryz.zeroValue130
  t57 := Tryz.underlying134
  a57 := Tryz.isAgg134
  z57 := Tryz.sizeOf134
  v57 := Tryz.zeroValue134
  t63 := Tryz.underlying139
  a63 := Tryz.isAgg139
  z63 := Tryz.sizeOf139
  v63 := Tryz.zeroValue139
  t64 := Tryz.underlying140
  a64 := Tryz.isAgg140
  z64 := Tryz.sizeOf140
  v64 := Tryz.zeroValue140 }
set_option maxRecDepth 100000 in
theorem Tryz.sorts35 (m : Nat) : AnyZ.SortsIn Tryz.prog Tryz.sorted35_ren Fence.wide m :=
  ⟨fun blk off cap ss W hH hblk hsz => callsIn_wide.2 (AnyM.slices_Sort_string Tryz.sort58 blk off cap ss W hH hblk hsz),
   fun p cap W => callsIn_wide.2 (AnyM.slices_Sort_string_none Tryz.sort58 p cap W)⟩
end Go.Proofs
namespace Go.Abs
open Go.Proofs Go.RowKit Go.Maps Go.Sort Go.Shelf
set_option maxRecDepth 100000 in
set_option maxHeartbeats 1000000 in
theorem ZnU : Zng Tryz.prog 37 59 9 := by
  intro bm b nn D0 R w hbm hcell hown hmax hbytes
  have hseq : SeqGives Fence.wide 2 Tryz.prog 59 #[.pointer (some ⟨bm, 0, none⟩)] encStr (fun ss => ss.Perm (strKeys D0)) (Maps.size D0) w :=
    AnyZ.keys_gives (ρ := Tryz.keys36_ren) { Tryz.keys36 with } Fence.wide _ trivial rfl (by omega) bm b nn D0 w hbm hcell hown
  exact callsIn_wide.1 (AnyZ.sorted_in Tryz.sorted35 Fence.wide 5 trivial trivial trivial trivial rfl (by omega) (Tryz.sorts35 _) (enters_of Tryz.func58 (by kernel_rfl) rfl) 59 #[.pointer (some ⟨bm, 0, none⟩)] trivial (enters_of Tryz.func59 (by kernel_rfl) rfl) _ _ hmax hbytes _ hseq)
set_option maxRecDepth 100000 in
theorem YcO {args : List AV} {h : List AObj} {r : AV} {h' : List AObj} (he : ZuZ 59 args h = some (r, h')) : Has Tryz.prog 37 args h r h' :=
  Yao (vt := 4) ⟨_, Tryz.func37, by kernel_rfl⟩ Tryz.underlying9 Tryz.underlying4 ZnU he
end Go.Abs
namespace Go.Abs
open Go.RowKit Go.ChangeShapes Go.WideShapes Go.ChangeAt
def Stays (W W' : World) : Prop := W'.os = W.os ∧ W'.output = W.output ∧ W.heap.size ≤ W'.heap.size ∧ ∀ b, b < W.heap.size → W'.heap[b]? = W.heap[b]?
theorem Stays.kept {W W' : World} (h : Stays W W') (may : MemPlace → Prop) : W.keptBut W' may := by
  refine ⟨h.1, h.2.1, fun i hi => ?_⟩
  rw [h.2.2.2 i hi]
  cases hx : W.heap[i]? with
  | none => exact rfl
  | some o => cases o <;> first | exact ⟨rfl, rfl, rfl, fun _ _ => rfl⟩ | exact .inr ⟨rfl, rfl⟩ | exact rfl
theorem Stays.frozen {W W' : World} (h : Stays W W') {a : Addr} (ha : a.block < W.heap.size) : W'.frozen? a = W.frozen? a := by
  simp only [World.frozen?, h.2.2.2 _ ha]
theorem Stays.same {W W' : World} (h : Stays W W') {p : MemPlace} (hp : p.block < W.heap.size) : W.sameAt W' p := by
  have h2 : ∀ W2 : World, W2 = { W' with tape := W.tape } → W.sameAt W2 p := fun W2 e => by
    have hb : Below W.heap.size W W2 := by subst e; exact ⟨h.1, rfl, h.2.1, h.2.2.1, h.2.2.2⟩
    exact hb.same hp
  have := h2 _ rfl
  exact this
theorem Zo1 {H : Type} {enc : TypeId × Value → H} {P : Program} {f : Func} {s : ChangeSpec} {apart fresh handsOn again : Bool} {W W' : World} {args : Array Value} {v : Value} {ds gs : List (DataW H)} {before pa pv : List MemPlace}
    (hW : DataW.Whole enc P f.params.toList s.vars apart W args.toList ds gs before)
    (hres : ∀ (b : Nat) (sp : Nat → Bool) (hd : Bool), DataW.TrodAll enc P W' b sp hd f.resultTypes.toList (v.resultList f.resultTypes.size) (s.fn H (ds ++ gs)).results [])
    (hargs : ∀ sp : Nat → Bool, (∀ p ∈ before, sp p.block = true) → DataW.TrodAll enc P W' 0 sp true f.params.toList args.toList (s.fn H (ds ++ gs)).args pa)
    (hvars : ∀ sp : Nat → Bool, (∀ p ∈ before, sp p.block = true) → DataW.TrodVars enc P W' sp s.vars (s.fn H (ds ++ gs)).vars pv)
    (hps : before = pa ++ pv) (hS : Stays W W')
    (hok : ∀ (j : Nat) (t : TypeId) (r : Value), f.resultTypes[j]? = some t → (v.resultList f.resultTypes.size)[j]? = some r → Value.okWide P W' .any 0 t r) :
    s.post enc P f apart fresh handsOn again W args v W' := by
  have hold : ∀ p ∈ before, (fun b => decide (b < W.heap.size)) p.block = true := fun p hp => by simpa using hW.lt p hp
  have hlt : ∀ p ∈ before, p.block < W.heap.size := fun p hp => hW.lt p hp
  refine ⟨ds, gs, before, [], pa, pv, hW, hres _ _ _, hargs _ hold, hvars _ hold, World.keptBut_mono (fun p hp => ⟨hp, ?_⟩) (hS.kept (· ∈ before)), fun _ => ?_⟩
  · rw [hps, List.mem_append] at hp
    exact Or.inr hp
  · obtain ⟨_, _, _, _, _, hz, hn⟩ := hW
    refine ⟨hok, _, _, ([] ++ pa) ++ pv, ⟨[] ++ pa, pv, trodAll_append (hargs _ (fun _ _ => rfl)) (hres _ _ _), hvars _ (fun _ _ => rfl), rfl, ?_, ?_⟩, ?_⟩
    · intro b off hp
      have hm : MemPlace.cell b off ∈ before := by rw [hps]; simpa using hp
      rw [hS.frozen (a := ⟨b, off, none⟩) (hlt _ hm)]
      exact hz b off hm
    · intro ha
      have := hn ha
      rw [hps] at this
      simpa using this
    · intro p hp _
      rw [hps]
      simpa using hp
theorem Yfa (P : Program) (W : World) : HRel P W ZbO [] :=
  ⟨fun id o h => (by simp at h), fun b b' x f f' h => (by cases h), fun b x h => (by cases h), fun b id f h => (by cases h)⟩
theorem Zw4 {P : Program} {f : FuncId} {ds : List DV} {b : Bool} {h' : List AObj} (h : Has P f (ds.map .d) [] (.d (.bool b)) h') {W : World} {vs : Array Value} (hl : vs.size = ds.length) (hr : ∀ (i : Nat) v d, vs[i]? = some v → ds[i]? = some d → Rep W ZbO v d) :
    Calls P f vs W fun e W' => e = .returned (.bool b) ∧ Stays W W' := by
  refine (h.2 W ZbO vs (Yfa P W) (fun b x f hx => by cases hx) (by simpa using hl) fun i v x hv hx => ?_).mono ?_
  · rw [List.getElem?_map] at hx
    cases hd : ds[i]? with
    | none => rw [hd] at hx; cases hx
    | some d =>
      rw [hd] at hx
      cases hx
      exact .d _ _ (hr i v d hv hd)
  · rintro e w' ⟨v, own', rfl, _, _, h1, h2, _⟩
    cases h1 with
    | d _ _ h3 =>
      cases h3
      exact ⟨rfl, h2.os, h2.output, h2.size, fun b hb => (h2.blk b hb (.inl rfl)).1⟩
end Go.Abs
namespace Go.Tev.S1
open Go.Abs Go.Proofs Go.RowKit
noncomputable def K0 : Zaa := fun f args h => bif Nat.beq f 37 then ZuZ 59 args h else none
theorem YdL : ZaY Tryz.prog K0 := by
  intro f args h r h' he
  unfold K0 at he
  cases hb : Nat.beq f 37 with
  | false => rw [hb] at he; cases he
  | true =>
    rw [hb] at he
    have : f = 37 := Nat.eq_of_beq_eq_true hb
    subst this
    exact YcO he
theorem Zjy : Zcu K0 := by
  intro f args h hf
  unfold K0
  have : Nat.beq f 37 = false := beq_ne.2 fun e => hf (by subst e; decide)
  rw [this]; rfl
theorem YbW : Zx2 K0 := fun args h r he => he
theorem Zae : Za0 C.P := by
  have h : (Tryz.prog.funcs.all fun fn => !(fn.name == "runtime.NumGoroutine")) = true := by kernel_rfl
  intro f fn hf
  have := (Array.all_eq_true_iff_forall_mem.1 h) fn (Array.mem_of_getElem? hf)
  simpa using this
theorem mixed : C.P.follows .mixedOrders = true := by kernel_rfl
end Go.Tev.S1
namespace Go.Abs
theorem ZaR {α : Type} {l m : List (Nat × α)} {k : Nat} {v : α} (h : Zad l k = some v) : Zad (l ++ m) k = some v := by
  induction l with
  | nil => simp [Zad] at h
  | cons p l ih =>
    obtain ⟨i, x⟩ := p
    simp only [List.cons_append, Zad] at h ⊢
    cases hb : Nat.beq i k with
    | true => rw [hb] at h; exact h
    | false => rw [hb] at h; exact ih h
end Go.Abs
namespace Go.Tev.S1
open Go.Abs Go.Proofs
def Edge (G : Nd) (a b : List UInt8) : Prop := ∃ u, ZaV BEq.beq a G = some u ∧ b ∈ ZbN u ∧ (ZaV BEq.beq b G).isSome = true
inductive Path (G : Nd) : List UInt8 → List UInt8 → Prop where
  | one {a b : List UInt8} (h : Edge G a b) : Path G a b
  | step {a b c : List UInt8} (h : Edge G a b) (t : Path G b c) : Path G a c
structure WalkPost (G : Nd) (S : List (List UInt8)) (name : List UInt8) (S' : List (List UInt8)) : Prop where
  nd : S'.Nodup
  sub : ∀ m ∈ S, m ∈ S'
  ing : ∀ m ∈ S', (ZaV BEq.beq m G).isSome = true
  next : ∀ m, Edge G name m → m ∈ S'
  new : ∀ m ∈ S', m ∉ S → Path G name m ∧ ∀ k, Edge G m k → k ∈ S'
theorem ZiM {β : Type} {a : List UInt8} : ∀ {G : List (List UInt8 × β)}, (ZaV BEq.beq a G).isSome = true → a ∈ G.map Prod.fst
  | [], h => by simp [ZaV] at h
  | (k, u) :: r, h => by
    simp only [ZaV] at h
    cases e : (a == k) with
    | true => rw [beq_iff_eq] at e; subst e; exact List.mem_cons_self
    | false => rw [e] at h; exact List.mem_cons_of_mem _ (ZiM h)
theorem Ybb {G : Nd} {S : List (List UInt8)} (hn : S.Nodup) (h : ∀ m ∈ S, (ZaV BEq.beq m G).isSome = true) : S.length ≤ G.length := by
  have := hn.length_le_of_subset (l₂ := G.map Prod.fst) fun m hm => ZiM (h m hm)
  simpa using this
def R68 (G : Nd) (out : List (DV × AV)) (S : List (List UInt8)) (name : List UInt8) (r : AV) (h' : List AObj) : Prop := r = .d (.tup []) ∧ ∃ S', WalkPost G S name S' ∧ h' = H68 G out S'
structure Mid (G : Nd) (S : List (List UInt8)) (name : List UInt8) (u : Bm) (vis : List Nat) (S' : List (List UInt8)) : Prop where
  nd : S'.Nodup
  sub : ∀ m ∈ S, m ∈ S'
  ing : ∀ m ∈ S', (ZaV BEq.beq m G).isSome = true
  vis : ∀ j ∈ vis, ∀ nm b, u[j]? = some (nm, b) → (ZaV BEq.beq nm G).isSome = true → nm ∈ S'
  new : ∀ m ∈ S', m ∉ S → Path G name m ∧ ∀ k, Edge G m k → k ∈ S'
theorem Ych : okC (C.ann 73) (.region 3 (Go.Abs.ops YaB) false) = true := by kernel_rfl
theorem Yc0 : okC (C.ann 73) (.region 4 (Go.Abs.ops ZzK) false) = true := by kernel_rfl
theorem o68_5 : (opZ (opsL ZoP)).guard = none ∧ (opZ (opsL ZoP)).dst = some 28 ∧ (opZ (opsL ZoP)).op = .call { callee := .value (.tmp 26), args := #[.tmp 27], argTypes := #[9] } := by
  refine ⟨?_, ?_, ?_⟩ <;> kernel_rfl
theorem Zwl : ∀ (n : Nat) (G : Nd) (out : List (DV × AV)) (S : List (List UInt8)) (name : List UInt8), S.Nodup → (∀ m ∈ S, (ZaV BEq.beq m G).isSome = true) → (ZaV BEq.beq name G).isSome = true → G.length - S.length < n →
    HasN Tryz.prog 73 (Ydn name) (H68 G out S) (R68 G out S name) := by
  intro n
  induction n with
  | zero => intro G out S name _ _ _ h; omega
  | succ n ih =>
    intro G out S name hnd hing hname hlt
    obtain ⟨u, hu⟩ := Option.isSome_iff_exists.1 hname
    have hK : ZaY C.P (fun _ _ _ => none : Zaa) := fun f args h r h' he => by cases he
    refine ZeK (C := C) (f := 73) (fn := Tryz.f73) Tryz.func73 Yde (by kernel_rfl) ?_
    refine ZeM (call := fun _ _ _ => none) Zae hK YeN (YbC G out S name u hu) o68_0.2.1 o68_0.1 o68_0.2.2 (by kernel_rfl) (by kernel_rfl) (show opA _ (.tmp 8) = some (.d (.fmap (ZfI u))) from rfl) Yez fun p => ?_
    have he : Zgv (ZgA 0 (Ydn name)) 9 (SV.val (.raw p)) = e68 name p := rfl
    show YdY C (C.ann 73) 9 p (ZfI u) _ ⟨Zgv (ZgA 0 (Ydn name)) 9 (.val (.raw p)), [], H68 G out S⟩ _
    rw [he]
    refine ZlV (call := fun _ _ _ => none) Zae hK YeH o68_1.2.1 o68_1.1 o68_1.2.2 (by kernel_rfl) (by kernel_rfl) YeY o68_2.2.1 o68_2.1 o68_2.2.2 (by kernel_rfl) (by kernel_rfl)
      (fun vis s => ∃ S', s = ⟨e68 name p, [], H68 G out S'⟩ ∧ Mid G S name u vis S') ⟨S, rfl, hnd, fun m h => h, hing, fun j h => by simp at h, fun m h h2 => absurd h h2⟩ (fun vis s ⟨S', hs, _⟩ => by subst hs; exact ⟨rfl, rfl⟩) ?_ ?_
    ·
      rintro vis s ⟨S', rfl, hM⟩ hall
      refine ⟨_, ZwY name p _ false [], rfl, ?_⟩
      refine ⟨[], rfl, rfl, S', ⟨hM.nd, hM.sub, hM.ing, fun m hm => ?_, hM.new⟩, rfl⟩
      obtain ⟨u', h1, h2, h3⟩ := hm
      rw [hu] at h1
      cases h1
      obtain ⟨q, hq, rfl⟩ := List.mem_map.1 h2
      obtain ⟨j, hj, rfl⟩ := List.mem_iff_getElem.1 hq
      exact hM.vis j (hall j (by simp [ZfI, hj])) u[j].1 u[j].2 (List.getElem?_eq_getElem hj) h3
    · rintro vis s j k v ⟨S', rfl, hM⟩ hj hjv
      rw [ZfI, List.getElem?_map] at hj
      cases huj : u[j]? with
      | none => rw [huj] at hj; cases hj
      | some q =>
        obtain ⟨nx, bb⟩ := q
        rw [huj] at hj
        cases hj
        refine ⟨_, _, ZwY name p _ true [.str nx, .bool bb], rfl, rfl, Ybo name p _ (.str nx) (.bool bb), ?_⟩
        have hsub : ∀ (more : List (Nat × SV)) (S2 : List (List UInt8)), Sub ⟨e68 name p, [], H68 G out S2⟩ ((⟨e68 name p ++ more, [], H68 G out S2⟩ : St).trim (e68 name p ++ [(11, .val (.d (.bool true)))])) := by
          intro more S2
          refine ⟨fun kk vv hv => ?_, rfl, rfl⟩
          simp only [St.trim]
          rw [alook_trimE _ _ _ (by rw [ZaR hv]; rfl)]
          exact ZaR hv
        refine ZcE (Q1 := fun o => o = .norm ⟨e68 name p ++ [(11, .val (.d (.bool true))), (5, .val (.d (.str nx))), (23, .val (.d (.bool ((ZaV BEq.beq nx G).isSome && !decide (nx ∈ S')))))], [], H68 G out S'⟩) (ZcD (call := fun _ _ _ => none) Zae mixed hK Ych (Ybj G out S' name nx p) rfl) ?_ (fun o h1 h2 => absurd h1 (h2 _))
        rintro s hs
        cases hs
        cases hc : ((ZaV BEq.beq nx G).isSome && !decide (nx ∈ S')) with
        | false =>
          refine Zhu (b := false) rfl (ZkQ ?_)
          simp only [Za1]
          refine ⟨_, ⟨S', rfl, hM.nd, hM.sub, hM.ing, fun i hi nm b hb hg => ?_, hM.new⟩, hsub _ S'⟩
          rcases List.mem_cons.1 hi with rfl | hi
          · rw [huj] at hb
            cases hb
            rw [hg] at hc
            simpa using hc
          · exact hM.vis i hi nm b hb hg
        | true =>
          rw [Bool.and_eq_true, Bool.not_eq_true', decide_eq_false_iff_not] at hc
          obtain ⟨hg, hns⟩ := hc
          have hnd2 : (S' ++ [nx]).Nodup := by
            rw [List.nodup_append]
            exact ⟨hM.nd, by simp, fun a ha b hb => by rw [List.mem_singleton] at hb; subst hb; exact fun e => hns (e ▸ ha)⟩
          have hing2 : ∀ m ∈ S' ++ [nx], (ZaV BEq.beq m G).isSome = true := fun m hm => by
            rcases List.mem_append.1 hm with hm | hm
            · exact hM.ing m hm
            · rw [List.mem_singleton] at hm; subst hm; exact hg
          have hedge : Edge G name nx := ⟨u, hu, List.mem_map.2 ⟨_, List.mem_of_getElem? huj, rfl⟩, hg⟩
          refine Zhu (b := true) rfl ?_
          simp only [cond_true]
          refine ZcE (Q1 := fun o => o = .norm ⟨e68 name p ++ [(11, .val (.d (.bool true))), (5, .val (.d (.str nx))), (23, .val (.d (.bool true)))], [], H68 G out (S' ++ [nx])⟩) (ZcD (call := fun _ _ _ => none) Zae mixed hK Yc0 (YbJ G out S' hns _ rfl rfl) rfl) ?_ (fun o h1 h2 => absurd h1 (h2 _))
          rintro s hs
          cases hs
          have hle : S.length ≤ S'.length := hnd.length_le_of_subset fun m hm => hM.sub m hm
          have hle2 := Ybb hnd2 hing2
          simp only [List.length_append, List.length_cons, List.length_nil] at hle2
          have hrec := ih G out (S' ++ [nx]) nx hnd2 hing2 hg (by simp only [List.length_append, List.length_cons, List.length_nil]; omega)
          refine ZgQ (call := fun _ _ _ => none) Zae hK YeD (Ybs G out (S' ++ [nx]) nx _ rfl rfl) o68_5.1
            (Zhw Zae o68_5.2.2 rfl (fv := .fn 73 [.ptr 1 0, .ptr 4 0, .ptr 5 0]) (vs := [.d (.str nx)]) (caps := [.ptr 1 0, .ptr 4 0, .ptr 5 0]) rfl rfl rfl hrec (fun r h' _ => by
              rw [o68_5.2.1]
              exact ⟨_, rfl⟩)) ?_
          rintro s ⟨r, h', ⟨rfl, S2, hP, rfl⟩, hput⟩
          rw [o68_5.2.1] at hput
          cases hput
          simp only [Za1]
          have hnew : nx ∈ S2 := hP.sub nx (by simp)
          refine ⟨_, ⟨S2, rfl, hP.nd, fun m hm => hP.sub m (List.mem_append_left _ (hM.sub m hm)), hP.ing, fun i hi nm b hb hg2 => ?_, fun m hm hmS => ?_⟩, hsub _ S2⟩
          · rcases List.mem_cons.1 hi with rfl | hi
            · rw [huj] at hb
              cases hb
              exact hnew
            · exact hP.sub nm (List.mem_append_left _ (hM.vis i hi nm b hb hg2))
          · by_cases h1 : m ∈ S'
            · obtain ⟨g1, g2⟩ := hM.new m h1 hmS
              exact ⟨g1, fun k hk => hP.sub k (List.mem_append_left _ (g2 k hk))⟩
            · by_cases h2 : m = nx
              · subst h2
                exact ⟨.one hedge, fun k hk => hP.next k hk⟩
              · obtain ⟨g1, g2⟩ := hP.new m hm (by simp [h1, h2])
                exact ⟨.step hedge g1, g2⟩
end Go.Tev.S1
namespace Go.Abs
section
variable {C : Ctx} {call : Zaa} {fa : FA} {st s : St} {x y : Code} {Q : Out → Prop}
theorem ZaO (hn : Za0 C.P) (hm : C.P.follows .mixedOrders = true) (hK : ZaY C.P call) {n : Nat} (hok : okC fa x = true) (h : evQ C call fa n x st = some (.norm s)) (h2 : Tri C fa y s Q) : Tri C fa (.seq x y) st Q :=
  ZcE (Q1 := fun o => o = .norm s) (ZcD hn hm hK hok h rfl) (fun s' hs => by cases hs; exact h2) (fun o h1 h2 => absurd h1 (h2 _))
end
end Go.Abs
namespace Go.Tev.S1
open Go.Abs Go.Proofs
noncomputable abbrev B44 : Code := Zac Tryz.f62
noncomputable abbrev X44 : Code := sq1 (sq2 (sq2 B44))
noncomputable abbrev Y44 : Code := sq2 (sq2 (sq2 B44))
noncomputable abbrev Z44 : Code := sq1 (sq2 Y44)
noncomputable abbrev L44 : Code := inn (inn (sq2 X44))
noncomputable abbrev M44 : Code := inn (inn (sq2 Z44))
noncomputable abbrev K44 : Code := inn (sq1 (sq2 (sq2 M44)))
noncomputable abbrev ZzH : Code := sq1 B44
noncomputable abbrev Zyv : Code := sq1 (sq2 B44)
noncomputable abbrev ZzJ : Code := sq1 X44
noncomputable abbrev ZyU : Code := sq1 Y44
noncomputable abbrev YaG : Code := sq1 Z44
noncomputable abbrev Zpt : Code := sq1 M44
noncomputable abbrev ZqB : Code := sq1 K44
noncomputable abbrev Zqn : Code := sq1 (sq2 K44)
noncomputable abbrev ZpI : Code := sq1 (sq2 (sq2 K44))
noncomputable abbrev Zp5 : Code := sq1 (sq2 (sq2 (sq2 K44)))
noncomputable abbrev ZhO : Code := sq1 (sq2 (sq2 (sq2 (sq2 K44))))
noncomputable abbrev ZqM : Code := sq2 (sq2 (sq2 (sq2 (sq2 K44))))
noncomputable abbrev ZpM : Code := sq2 (sq2 (sq2 M44))
noncomputable abbrev ZtZ : Code := sq1 (sq2 (sq2 Y44))
theorem Ybc : Tryz.f62.body = some (.seq ZzH (.seq Zyv (.seq (.seq ZzJ (.block 0 (.loop L44))) (.seq ZyU (.seq (.seq YaG (.block 2 (.loop (.seq Zpt (.seq (.cond (.tmp 34) .skip (.exit 2)) (.seq (.block 3 (.seq ZqB (.seq Zqn (.seq ZpI (.seq Zp5 (.seq (.region 15 (Go.Abs.ops ZhO) false) ZqM)))))) ZpM)))))) (.seq ZtZ .ret)))))) := by kernel_rfl
def Za3 (raw : List Cus) : Nd := raw.map fun x => (x.name, Zef [] x.val)
def d44 (raw : List Cus) : DV := .slc (raw.map Cus.enc)
def e44 (raw : List Cus) (i : Nat) : List (Nat × SV) := [(0, .val (.d (d44 raw))), (2, .val (.d .nilm)), (3, .val (.ptr 1 0)), (12, .val (.d (d44 raw))), (13, .val (.d (.int .i64 raw.length))), (14, .val (.d (.int .i64 i)))]
def h44 (G : Nd) : List AObj := [.map (ZoL G), .var [.mp 0]]
theorem ZuJ : C.elemSize 23 = some 2 := by kernel_rfl
theorem zz98 : C.zero 107 = some .nilm := by kernel_rfl
theorem zz61 : C.zero 62 = some .nilm := by kernel_rfl
theorem zz99 : C.zero 108 = some .nilf := by kernel_rfl
theorem sz98 : C.size 107 = some 1 := by kernel_rfl
theorem sz61 : C.size 62 = some 1 := by kernel_rfl
theorem sz99 : C.size 108 = some 1 := by kernel_rfl
theorem Ydl : C.size 39 = some 2 := by kernel_rfl
theorem Ydp : C.zero 39 = some (.agg [.str [], .slc []]) := by kernel_rfl
theorem Ydo : C.isAgg 39 = some true := by kernel_rfl
theorem ag9 : C.isAgg 9 = some false := by kernel_rfl
theorem ZyK : C.isAgg 22 = some false := by kernel_rfl
theorem ZjZ : C.field 39 0 = some ⟨ "Name", 9, 0, false, "", "", 0⟩ := by kernel_rfl
theorem Zob : C.field 39 1 = some ⟨ "Value", 22, 1, false, "", "", 16⟩ := by kernel_rfl
theorem hz9 : C.hasSize 9 = true := by kernel_rfl
theorem ZzT : C.hasSize 22 = true := by kernel_rfl
section
attribute [local simp] List.getElem?_cons_zero Option.bind_some Zvm Zd4 Zcj Zbd ZfC ZdL Zcx ZjI ZfE ZdG Zfm Zfv Zjh Zfx Zb6 Zbt ZiO ZaS ZaZ ZjM ZaW Zcq Zdh ZdR Zca has opx opd opA opD XV.flat XV.copy oD oA Zad ins ZlS ZfU St.put St.putOwn St.lose St.loseEnv unal ZjC ZjK Zpi dUn Zgv Zay ZbV Zbc Za8 ZaN Zcc ZbA ZbZ ZhU Zbs AV.cells AV.cellOk AV.single DV.cellOk Zuw Zvx Zu2 DV.cells ZaK ZeU ZaG ZbW ZaH ZaX Zj5 ZaU Zeb mapO AV.toD ZaB ZbR Zd5 optD Zb2 Za5 Zfl Zao ZbQ ZbH ZaF ZdB Zc1 Zbi St.trim Out.st
theorem Ybf {call : Zaa} (raw : List Cus) : evQ C call (ann 62) 0 ZzH ⟨ZgA 0 [.d (d44 raw)], [], []⟩ = some (.norm ⟨[(0, .val (.d (d44 raw))), (2, .val (.d .nilm))], [], []⟩) := by
  unfold ZzH B44 Zac Tryz.f62
  simp only [Option.getD_some, sq1, ZgA]
  simp [-getElem?_pos, A62, Zai]
theorem YcD {call : Zaa} (raw : List Cus) : evQ C call (ann 62) 0 Zyv ⟨[(0, .val (.d (d44 raw))), (2, .val (.d .nilm))], [], []⟩ = some (.norm ⟨[(0, .val (.d (d44 raw))), (2, .val (.d .nilm)), (3, .val (.ptr 1 0))], [], h44 []⟩) := by
  unfold Zyv B44 Zac Tryz.f62 h44 ZoL
  simp only [Option.getD_some, sq1, sq2]
  simp [-getElem?_pos, A62, Zai, m98, zz98, sz98, List.getElem?_append]
theorem Ycl {call : Zaa} (raw : List Cus) : evQ C call (ann 62) 0 ZzJ ⟨[(0, .val (.d (d44 raw))), (2, .val (.d .nilm)), (3, .val (.ptr 1 0))], [], h44 []⟩ = some (.norm ⟨e44 raw 0, [], h44 []⟩) := by
  unfold ZzJ X44 B44 Zac Tryz.f62 h44 e44 d44
  simp only [Option.getD_some, sq1, sq2]
  simp [-getElem?_pos, A62, Zai, ZuJ]
end
theorem Zq8 (a : List UInt8) (v : AV) : ∀ G : Nd, ZaV BEq.beq a G = none → Zrx (.str a) v (ZoL G) = some (ZoL G ++ [(.str a, v)])
  | [], _ => rfl
  | (k, u) :: r, h => by
    simp only [ZaV] at h
    cases e : (a == k) with
    | true => rw [e] at h; cases h
    | false =>
      rw [e] at h
      have ih := Zq8 a v r h
      simp only [ZoL, List.map_cons, List.cons_append, Zrx, ZdQ, e] at ih ⊢
      simp only [ih, Option.map_some]
theorem Zqv (a : List UInt8) (v : AV) : ∀ G : Nd, ZaV BEq.beq a G = none → Zf6 (.str a) (ZoL G ++ [(.str a, v)]) = some (some v)
  | [], _ => by simp [ZoL, Zf6, ZdQ]
  | (k, u) :: r, h => by
    simp only [ZaV] at h
    cases e : (a == k) with
    | true => rw [e] at h; cases h
    | false =>
      rw [e] at h
      have ih := Zqv a v r h
      simp only [ZoL, List.map_cons, List.cons_append, Zf6, ZdQ, e] at ih ⊢
      exact ih
theorem ZlJ {raw : List Cus} {i : Nat} {x : Cus} (h : raw[i]? = some x) : (raw.map Cus.enc)[i]? = some (.agg [.str x.name, .slc (x.val.map Val.enc)]) := by rw [List.getElem?_map, h]; rfl
theorem YbA {raw : List Cus} {i : Nat} (h : i < raw.length) : idx (i : Int) raw.length = some i := Zt4 h
section
attribute [local simp] List.getElem?_cons_zero Option.bind_some Zvm Zd4 Zcj Zbd ZfC ZdL Zcx ZjI ZfE ZdG Zfm Zfv Zjh Zfx Zb6 Zbt ZiO ZaS ZaZ ZjM ZaW Zcq Zdh ZdR Zca has opx opd opA opD XV.flat XV.copy oD oA Zad ins ZlS ZfU St.put St.putOwn St.lose St.loseEnv unal ZjC ZjK Zpi dUn Zgv Zay ZbV Zbc Za8 ZaN Zcc ZbA ZbZ ZhU Zbs AV.cells AV.cellOk AV.single DV.cellOk Zuw Zvx Zu2 DV.cells ZaK ZeU ZaG ZbW ZaH ZaX Zj5 ZaU Zeb mapO AV.toD ZaB ZbR Zd5 optD Zb2 Za5 Zfl Zao ZbQ ZbH ZaF ZdB Zc1 Zbi St.trim Out.st
theorem YbG {call : Zaa} (raw : List Cus) (i : Nat) (x : Cus) (hx : raw[i]? = some x) (hl : raw.length < 2 ^ 40) (G : Nd) (hG : ZaV BEq.beq x.name G = none) (h' : List AObj)
    (h34 : call 36 [.d (.slc (x.val.map Val.enc)), .mp 2] [.map (ZoL G ++ [(.str x.name, .mp 2)]), .var [.mp 0], .map []] = some (.d (.tup []), h')) :
    evQ C call (ann 62) 0 L44 ⟨e44 raw i, [], h44 G⟩ = some (.norm ⟨e44 raw (i + 1) ++ [(15, .val (.d (.bool true)))], [], h'⟩) := by
  have hlt : i < raw.length := (List.getElem?_eq_some_iff.1 hx).1
  have hd : decide ((i : Int) < (raw.length : Int)) = true := dlt hlt
  have hw : IntKind.i64.wrap ((i : Int) + 1) = (i : Int) + 1 := Za7 (by omega)
  have hg := ZlJ hx
  have hi := YbA hlt
  unfold L44 X44 B44 Zac Tryz.f62 e44 d44 h44
  simp only [Option.getD_some, sq1, sq2, inn]
  simp [-getElem?_pos, A62, Zai, ZuJ, hlt, hw, hg, hi, Ydo, Ydl, Ydp, ZjZ, Zob, hz9, ZzT, ag9, ZyK, Ybd, Zq8 _ _ G hG, Zqv _ _ G hG, Zbn, z98, k98, Ydt, Zh4, AV.toD, h34, St.trim, Zbi, List.getElem?_append, AV.cellOk, -List.getElem?_map]
theorem Yco {call : Zaa} (raw : List Cus) (G : Nd) : evQ C call (ann 62) 0 L44 ⟨e44 raw raw.length, [], h44 G⟩ = some (.exit 0 ⟨e44 raw raw.length ++ [(15, .val (.d (.bool false)))], [], h44 G⟩) := by
  unfold L44 X44 B44 Zac Tryz.f62 e44 d44 h44
  simp only [Option.getD_some, sq1, sq2, inn]
  simp [-getElem?_pos, A62, Zai]
end
end Go.Tev.S1
namespace Go.Tev.S1
open Go.Abs Go.Proofs
def ZpY (O : Bm) : List (DV × AV) := O.map fun p => (.str p.1, .d (.bool p.2))
def f44 (raw : List Cus) (i : Nat) : List (Nat × SV) := [(0, .val (.d (d44 raw))), (2, .val (.d .nilm)), (3, .val (.ptr 1 0)), (6, .val (.mp 2)), (31, .val (.d (d44 raw))), (32, .val (.d (.int .i64 raw.length))), (33, .val (.d (.int .i64 i)))]
def g44 (G : Nd) (O : Bm) : List AObj := [.map (ZoL G), .var [.mp 0], .map (ZpY O)]
def b44 (x : Cus) : Nat × SV := (8, .box [.str x.name, .slc (x.val.map Val.enc)])
theorem ZlG (a : List UInt8) (b : Bool) : ∀ O : Bm, a ∉ ZbN O → Zrx (.str a) (.d (.bool b)) (ZpY O) = some (ZpY (O ++ [(a, b)]))
  | [], _ => rfl
  | (k, c) :: r, h => by
    have ih := ZlG a b r (fun hm => h (List.mem_cons_of_mem _ hm))
    have e : (a == k) = false := by
      rw [beq_eq_false_iff_ne]
      intro e
      exact h (by rw [e]; exact List.mem_cons_self)
    simp only [ZpY, List.map_cons, List.cons_append, Zrx, ZdQ, e] at ih ⊢
    simp only [ih, Option.map_some]
section
attribute [local simp] List.getElem?_cons_zero Option.bind_some Zvm Zd4 Zcj Zbd ZfC ZdL Zcx ZjI ZfE ZdG Zfm Zfv Zjh Zfx Zb6 Zbt ZiO ZaS ZaZ ZjM ZaW Zcq Zdh ZdR Zca has opx opd opA opD XV.flat XV.copy oD oA Zad ins ZlS ZfU St.put St.putOwn St.lose St.loseEnv unal ZjC ZjK Zpi dUn Zgv Zay ZbV Zbc Za8 ZaN Zcc ZbA ZbZ ZhU Zbs AV.cells AV.cellOk AV.single DV.cellOk Zuw Zvx Zu2 DV.cells ZaK ZeU ZaG ZbW ZaH ZaX Zj5 ZaU Zeb mapO AV.toD ZaB ZbR Zd5 optD Zb2 Za5 Zfl Zao ZbQ ZbH ZaF ZdB Zc1 Zbi St.trim Out.st
theorem Ybg {call : Zaa} (raw : List Cus) (G : Nd) : evQ C call (ann 62) 0 ZyU ⟨[(0, .val (.d (d44 raw))), (2, .val (.d .nilm)), (3, .val (.ptr 1 0))], [], h44 G⟩ = some (.norm ⟨[(0, .val (.d (d44 raw))), (2, .val (.d .nilm)), (3, .val (.ptr 1 0)), (6, .val (.mp 2))], [], g44 G []⟩) := by
  unfold ZyU Y44 B44 Zac Tryz.f62 h44 g44 ZpY
  simp only [Option.getD_some, sq1, sq2]
  simp [-getElem?_pos, A62, Zai, Ybd]
theorem Yc6 {call : Zaa} (raw : List Cus) (G : Nd) : evQ C call (ann 62) 0 YaG ⟨[(0, .val (.d (d44 raw))), (2, .val (.d .nilm)), (3, .val (.ptr 1 0)), (6, .val (.mp 2))], [], g44 G []⟩ = some (.norm ⟨f44 raw 0, [], g44 G []⟩) := by
  unfold YaG Z44 Y44 B44 Zac Tryz.f62 f44 d44
  simp only [Option.getD_some, sq1, sq2]
  simp [-getElem?_pos, A62, Zai, ZuJ]
theorem Zs7 {call : Zaa} (raw : List Cus) (i : Nat) (h : List AObj) : evQ C call (ann 62) 0 Zpt ⟨f44 raw i, [], h⟩ = some (.norm ⟨f44 raw i ++ [(34, .val (.d (.bool (decide ((i : Int) < (raw.length : Int))))))], [], h⟩) := by
  unfold Zpt M44 Z44 Y44 B44 Zac Tryz.f62 f44
  simp only [Option.getD_some, sq1, sq2, inn]
  simp [-getElem?_pos, A62, Zai]
theorem ZyP {call : Zaa} (raw : List Cus) (i : Nat) (x : Cus) (hx : raw[i]? = some x) (h : List AObj) (v : SV) : evQ C call (ann 62) 0 ZqB ⟨f44 raw i ++ [(34, v)], [], h⟩ = some (.norm ⟨f44 raw i ++ [(34, v), b44 x], [], h⟩) := by
  have hlt : i < raw.length := (List.getElem?_eq_some_iff.1 hx).1
  have hg := ZlJ hx
  have hi := YbA hlt
  unfold ZqB K44 M44 Z44 Y44 B44 Zac Tryz.f62 f44 b44 d44
  simp only [Option.getD_some, sq1, sq2, inn]
  simp [-getElem?_pos, A62, Zai, ZuJ, hg, hi, Ydo, Ydl, Ydp, -List.getElem?_map]
theorem YaA {call : Zaa} (raw : List Cus) (i : Nat) (x : Cus) (G : Nd) (O : Bm) (v : SV) : evQ C call (ann 62) 0 Zqn ⟨f44 raw i ++ [(34, v), b44 x], [], g44 G O⟩ = some (.norm ⟨f44 raw i ++ [(34, v), b44 x, (9, .val (.ptr 4 0))], [], g44 G O ++ [.map [], .var [.mp 3]]⟩) := by
  unfold Zqn K44 M44 Z44 Y44 B44 Zac Tryz.f62 f44 b44 g44
  simp only [Option.getD_some, sq1, sq2, inn]
  simp [-getElem?_pos, A62, Zai, Ybd, zz61, sz61, AV.cellOk]
theorem Yac {call : Zaa} (raw : List Cus) (i : Nat) (x : Cus) (G : Nd) (O : Bm) (v : SV) : evQ C call (ann 62) 0 ZpI ⟨f44 raw i ++ [(34, v), b44 x, (9, .val (.ptr 4 0))], [], g44 G O ++ [.map [], .var [.mp 3]]⟩ = some (.norm ⟨f44 raw i ++ [(34, v), b44 x, (9, .val (.ptr 4 0)), (10, .val (.ptr 5 0))], [], g44 G O ++ [.map [], .var [.mp 3], .var [.d .nilf]]⟩) := by
  unfold ZpI K44 M44 Z44 Y44 B44 Zac Tryz.f62 f44 b44 g44
  simp only [Option.getD_some, sq1, sq2, inn]
  simp [-getElem?_pos, A62, Zai, zz99, sz99, AV.cellOk]
theorem ZyE {call : Zaa} (raw : List Cus) (i : Nat) (x : Cus) (G : Nd) (O : Bm) (v : SV) : evQ C call (ann 62) 0 Zp5 ⟨f44 raw i ++ [(34, v), b44 x, (9, .val (.ptr 4 0)), (10, .val (.ptr 5 0))], [], g44 G O ++ [.map [], .var [.mp 3], .var [.d .nilf]]⟩ = some (.norm ⟨f44 raw i ++ [(34, v), b44 x, (9, .val (.ptr 4 0)), (10, .val (.ptr 5 0))], [], H68 G (ZpY O) []⟩) := by
  unfold Zp5 K44 M44 Z44 Y44 B44 Zac Tryz.f62 f44 b44 g44 H68
  simp only [Option.getD_some, sq1, sq2, inn]
  simp [-getElem?_pos, A62, Zai, sz99, AV.cellOk, Zvr, AV.toD, Zsu]
theorem Yam {call : Zaa} {all : List Oper} (raw : List Cus) (i : Nat) (x : Cus) (G : Nd) (O : Bm) (v : SV) : Zai C call (ann 62) all ((opsL ZhO).take 3) ⟨f44 raw i ++ [(34, v), b44 x, (9, .val (.ptr 4 0)), (10, .val (.ptr 5 0))], [], H68 G (ZpY O) []⟩ =
    some ⟨f44 raw i ++ [(34, v), b44 x, (9, .val (.ptr 4 0)), (10, .val (.ptr 5 0))], [(41, .a (.d (.str x.name))), (40, .sp 8 0), (39, .a (.fn 73 [.ptr 1 0, .ptr 4 0, .ptr 5 0]))], H68 G (ZpY O) []⟩ := by
  unfold opsL Go.Abs.ops ZhO K44 M44 Z44 Y44 B44 Zac Tryz.f62 f44 b44 H68
  simp only [Option.getD_some, sq1, sq2, inn]
  simp [-getElem?_pos, A62, Zai, ag99, ZjZ, hz9, ag9]
theorem YdT : (Go.Abs.ops ZhO).toList = (opsL ZhO).take 3 ++ [opZ (opsL ZhO)] := by kernel_rfl
theorem o44_15 : (opZ (opsL ZhO)).guard = none ∧ (opZ (opsL ZhO)).dst = some 42 ∧ (opZ (opsL ZhO)).op = .call { callee := .value (.tmp 39), args := #[.tmp 41], argTypes := #[9] } := by
  refine ⟨?_, ?_, ?_⟩ <;> kernel_rfl
theorem Yaa {call : Zaa} (raw : List Cus) (i : Nat) (x : Cus) (G : Nd) (O : Bm) (S : List (List UInt8)) (v : SV) (hO : x.name ∉ ZbN O) : evQ C call (ann 62) 0 ZqM ⟨f44 raw i ++ [(34, v), b44 x, (9, .val (.ptr 4 0)), (10, .val (.ptr 5 0))], [], H68 G (ZpY O) S⟩ =
    some (.norm ⟨f44 raw i ++ [(34, v), b44 x, (9, .val (.ptr 4 0)), (10, .val (.ptr 5 0))], [], H68 G (ZpY (O ++ [(x.name, decide (x.name ∈ S))])) S⟩) := by
  unfold ZqM K44 M44 Z44 Y44 B44 Zac Tryz.f62 f44 b44 H68
  simp only [Option.getD_some, sq1, sq2, inn]
  by_cases hs : x.name ∈ S
  · simp [-getElem?_pos, A62, Zai, ZjZ, hz9, ag9, Ydj, Zbn, z61, k61, Zfu, ZlG _ _ O hO, AV.cellOk, hs]
  · simp [-getElem?_pos, A62, Zai, ZjZ, hz9, ag9, Ydj, Zbn, z61, k61, Zfu, ZlG _ _ O hO, AV.cellOk, hs]
theorem ZyA {call : Zaa} (raw : List Cus) (i : Nat) (hl : i + 1 < 2 ^ 63) (h : List AObj) (v : SV) : evQ C call (ann 62) 0 ZpM ⟨f44 raw i ++ [(34, v)], [], h⟩ = some (.norm ⟨f44 raw (i + 1) ++ [(34, v)], [], h⟩) := by
  have hw : IntKind.i64.wrap ((i : Int) + 1) = (i : Int) + 1 := Za7 hl
  unfold ZpM M44 Z44 Y44 B44 Zac Tryz.f62 f44
  simp only [Option.getD_some, sq1, sq2, inn]
  simp [-getElem?_pos, A62, Zai, hw]
theorem ZzY {call : Zaa} (raw : List Cus) (i : Nat) (h : List AObj) : evQ C call (ann 62) 0 ZtZ ⟨f44 raw i, [], h⟩ = some (.norm ⟨[(0, .val (.d (d44 raw))), (2, .val (.mp 2)), (3, .val (.ptr 1 0)), (6, .val (.mp 2)), (31, .val (.d (d44 raw))), (32, .val (.d (.int .i64 raw.length))), (33, .val (.d (.int .i64 i)))], [], h⟩) := by
  unfold ZtZ Y44 B44 Zac Tryz.f62 f44
  simp only [Option.getD_some, sq1, sq2]
  simp [-getElem?_pos, A62, Zai]
end
end Go.Tev.S1
namespace Go.Abs
theorem sub_list {env1 e0 : List (Nat × SV)} {s : St} (h : ∀ p ∈ env1, Zad s.env p.1 = some p.2 ∧ (Zad e0 p.1).isSome = true) : Sub ⟨env1, [], s.heap⟩ (s.trim e0) := by
  refine ⟨fun k v hv => ?_, rfl, rfl⟩
  obtain ⟨h1, h2⟩ := h (k, v) (alook_mem0' hv)
  simp only [St.trim]
  rw [Go.Tev.alook_trimE _ _ _ h2]
  exact h1
where
  alook_mem0' {α : Type} : ∀ {l : List (Nat × α)} {t : Nat} {v : α}, Zad l t = some v → (t, v) ∈ l
    | [], t, v, h => by simp [Zad] at h
    | (k, u) :: l, t, v, h => by
      simp only [Zad] at h
      cases hb : Nat.beq k t with
      | true =>
        rw [hb] at h
        have := Nat.eq_of_beq_eq_true hb
        cases h
        subst this
        exact List.mem_cons_self
      | false =>
        rw [hb] at h
        exact List.mem_cons_of_mem _ (alook_mem0' h)
theorem ZsM {s : St} (h : s.tmp = []) : Sub s s := ⟨fun _ _ h => h, h, rfl⟩
end Go.Abs
namespace Go.Tev.S1
open Go.Abs Go.Proofs
open Classical in
noncomputable def Zbb (raw : List Cus) : Bm := raw.map fun x => (x.name, decide (Path (Za3 raw) x.name x.name))
theorem Zah : ZaY C.P (Zab C K0) := Zl7 Zae mixed YdL
theorem YaO : okC (C.ann 62) L44 = true := by kernel_rfl
theorem Zkc (l : List Val) (hl : Zak l ≤ B) (a b : AObj) : ∃ h', Zab C K0 36 [.d (.slc (l.map Val.enc)), .mp 2] [a, b, .map []] = some (.d (.tup []), h') ∧ h'[0]? = some a ∧ h'[1]? = some b ∧ h'[2]? = some (.map ((ZfI (Zef [] l)).map fun p => (p.1, .d p.2))) := by
  obtain ⟨d, h', h1, h2, h3, h4, h5⟩ := Zrv (K := K0) Zjy [.l (X := X) 51 l] l [.slc (l.map Val.enc)] [2] [.d (.slc (l.map Val.enc)), .mp 2] ([], ()) [a, b, .map []] ((), (Zef [] l, ())) (fun _ => .tup []) rfl rfl rfl (by simp) ⟨⟨_, rfl, rfl⟩, trivial⟩ (ZrI hl) rfl
  cases h1
  obtain ⟨⟨ao, h6, h7⟩, _⟩ := h3
  have h7 : ao = .map ((Zef [] l).map fun p => (DV.str p.1, AV.d (DV.bool p.2))) := h7
  subst h7
  refine ⟨h', h2, ?_, ?_, ?_⟩
  · rw [h4 0 (by simp) (by simp)]; rfl
  · rw [h4 1 (by simp) (by simp)]; rfl
  · rw [h6, ZfI, List.map_map]; rfl
theorem ZpW {a : List UInt8} : ∀ {G : Nd}, a ∉ G.map Prod.fst → ZaV BEq.beq a G = none
  | [], _ => rfl
  | (k, u) :: r, h => by
    simp only [List.map_cons, List.mem_cons, not_or] at h
    simp only [ZaV]
    have : (a == k) = false := by simpa using h.1
    rw [this]
    exact ZpW h.2
theorem Zlk (raw : List Cus) : (Za3 raw).map Prod.fst = raw.map Cus.name := by simp [Za3, List.map_map, Function.comp_def]
theorem Zpa {raw : List Cus} {i : Nat} {x : Cus} (hn : (raw.map Cus.name).Nodup) (hx : raw[i]? = some x) : x.name ∉ (raw.take i).map Cus.name := by
  intro hm
  obtain ⟨y, hy, he⟩ := List.mem_map.1 hm
  obtain ⟨j, hj, rfl⟩ := List.mem_iff_getElem.1 hy
  have hi : i < raw.length := (List.getElem?_eq_some_iff.1 hx).1
  have hxi : raw[i] = x := (List.getElem?_eq_some_iff.1 hx).2
  have hj1 : j < i := by simp at hj; omega
  have hj2 : j < raw.length := by omega
  rw [List.getElem_take] at he
  have := (List.getElem_inj hn (i := j) (j := i) (h₀ := by simpa using hj2) (h₁ := by simpa using hi)).1 (by simp [he, hxi])
  omega
theorem Zsv {G : Nd} {S : List (List UInt8)} (hc : ∀ m ∈ S, ∀ k, Edge G m k → k ∈ S) {a b : List UInt8} (h : Path G a b) : a ∈ S → b ∈ S := by
  induction h with
  | one h => exact fun ha => hc _ ha _ h
  | step h t ih => exact fun ha => ih (hc _ ha _ h)
theorem Zwn {G : Nd} {a b : List UInt8} {S : List (List UInt8)} (h : WalkPost G [] a S) : b ∈ S ↔ Path G a b := by
  have hc : ∀ m ∈ S, ∀ k, Edge G m k → k ∈ S := fun m hm k hk => (h.new m hm (by simp)).2 k hk
  constructor
  · intro hb; exact (h.new b hb (by simp)).1
  · intro hp
    cases hp with
    | one e => exact h.next _ e
    | step e t => exact Zsv hc t (h.next _ e)
def Yc8 (e : List (Nat × SV)) (h : List AObj) : Out → Prop := fun o => ∃ s, o = .norm s ∧ Sub ⟨e, [], h⟩ s
theorem Zhp {e : List (Nat × SV)} {h : List AObj} {c d : Code} {st : St} {fa : FA} {Q : Out → Prop} (h1 : Tri C fa c st (Yc8 e h)) (h2 : Tri C fa d ⟨e, [], h⟩ Q) : Tri C fa (.seq c d) st Q :=
  ZcE h1 (fun s ⟨s', hs, hsub⟩ => by cases hs; exact Zn8 hsub h2) (fun o ⟨s, hs, _⟩ hne => absurd hs (hne s))
def p44 (raw : List Cus) : List (Nat × SV) := [(0, .val (.d (d44 raw))), (2, .val (.d .nilm)), (3, .val (.ptr 1 0))]
theorem ZyT (raw : List Cus) (hn : (raw.map Cus.name).Nodup) (hok : ZhI raw) : Tri C (C.ann 62) (.block 0 (.loop L44)) ⟨e44 raw 0, [], h44 []⟩ (Yc8 (p44 raw) (h44 (Za3 raw))) := by
  have hB : B = 2 ^ 36 := rfl
  have hV : V = 2 ^ 24 := rfl
  have hlen : raw.length < 2 ^ 40 := by have := hok.1; omega
  refine ZeO ?_
  refine ZiN (fun m s => ∃ i, i ≤ raw.length ∧ m = raw.length - i ∧ s = ⟨e44 raw i, [], h44 (Za3 (raw.take i))⟩) (n := raw.length) ⟨0, Nat.zero_le _, rfl, rfl⟩ ?_
  rintro m s ⟨i, hi, rfl, rfl⟩
  rcases Nat.lt_or_ge i raw.length with hlt | hge
  · have hx := List.getElem?_eq_getElem hlt
    have hnew := Zpa hn hx
    have hG : ZaV BEq.beq raw[i].name (Za3 (raw.take i)) = none := ZpW (by rw [Zlk]; exact hnew)
    obtain ⟨h', g1, g2, g3, g4⟩ := Zkc raw[i].val (Nat.le_trans (hok.2 raw[i] (List.getElem_mem hlt)) (by rw [hB, hV]; decide)) (.map (ZoL (Za3 (raw.take i)) ++ [(.str raw[i].name, .mp 2)])) (.var [.mp 0])
    refine ZtL (n := 2) (by simp [h44]) ?_
    refine ZcD (call := Zab C K0) Zae mixed Zah YaO (YbG raw i raw[i] hx hlen _ hG h' g1) ?_
    refine ⟨⟨e44 raw (i + 1), [], h44 (Za3 (raw.take (i + 1)))⟩, ⟨rfl, rfl, ?_, ?_⟩, ?_⟩
    · intro id o2 ho
      rcases id with _ | _ | id
      · refine ⟨_, g2, ?_⟩
        cases ho
        have hgr : ZoL (Za3 (raw.take (i + 1))) = ZoL (Za3 (raw.take i)) ++ [(.str raw[i].name, .d (.fmap (ZfI (Zef [] raw[i].val))))] := by
          rw [ZbG hx]; simp only [Za3, ZoL, List.map_append, List.map_cons, List.map_nil]
        rw [hgr]
        refine .map _ _ (by simp) fun j a b ha hb => ?_
        rcases Nat.lt_or_ge j (ZoL (Za3 (raw.take i))).length with hj | hj
        · rw [List.getElem?_append_left hj] at ha hb
          rw [ha] at hb
          cases hb
          refine ⟨rfl, ?_⟩
          have hm := List.mem_of_getElem? ha
          obtain ⟨p, _, rfl⟩ := List.mem_map.1 hm
          exact .d _
        · rw [List.getElem?_append_right hj] at ha hb
          have hj0 : j - (ZoL (Za3 (raw.take i))).length = 0 := by
            have := (List.getElem?_eq_some_iff.1 ha).1
            simp at this; omega
          rw [hj0] at ha hb
          cases ha
          cases hb
          exact ⟨rfl, .frz 2 _ (Nat.le_refl _) g4⟩
      · refine ⟨_, g3, ?_⟩
        cases ho
        refine .var _ _ rfl fun j a b ha hb => ?_
        rcases j with _ | j
        · cases ha; cases hb; exact .mp 0 (by decide)
        · simp at ha
      · simp [h44] at ho
    · intro k v2 hv
      refine ⟨v2, ZaR hv, ?_⟩
      have hm := sub_list.alook_mem0' hv
      simp only [e44, List.mem_cons, List.not_mem_nil, or_false, Prod.mk.injEq] at hm
      rcases hm with ⟨_, rfl⟩ | ⟨_, rfl⟩ | ⟨_, rfl⟩ | ⟨_, rfl⟩ | ⟨_, rfl⟩ | ⟨_, rfl⟩
      · exact .val _ _ (.d _)
      · exact .val _ _ (.d _)
      · exact .val _ _ (.ptr 1 0 (by decide))
      · exact .val _ _ (.d _)
      · exact .val _ _ (.d _)
      · exact .val _ _ (.d _)
    · exact ⟨_, _, by omega, ⟨i + 1, hlt, rfl, rfl⟩, ZsM rfl⟩
  · have he : i = raw.length := by omega
    subst he
    refine ZcD (call := Zab C K0) Zae mixed Zah YaO (Yco raw _) ?_
    simp only [Za1]
    refine ⟨_, rfl, ?_⟩
    rw [List.take_length]
    refine sub_list (s := ⟨e44 raw raw.length ++ [(15, .val (.d (.bool false)))], [], h44 (Za3 raw)⟩) fun p hp => ?_
    simp only [p44, List.mem_cons, List.not_mem_nil, or_false] at hp
    rcases hp with rfl | rfl | rfl <;> exact ⟨rfl, rfl⟩
theorem Yd1 : okC (C.ann 62) ZzH = true ∧ okC (C.ann 62) Zyv = true ∧ okC (C.ann 62) ZzJ = true ∧ okC (C.ann 62) ZyU = true ∧ okC (C.ann 62) YaG = true ∧ okC (C.ann 62) Zpt = true ∧ okC (C.ann 62) ZqB = true ∧ okC (C.ann 62) Zqn = true ∧
    okC (C.ann 62) ZpI = true ∧ okC (C.ann 62) Zp5 = true ∧ okC (C.ann 62) ZqM = true ∧ okC (C.ann 62) ZpM = true ∧ okC (C.ann 62) ZtZ = true := by
  refine ⟨?_, ?_, ?_, ?_, ?_, ?_, ?_, ?_, ?_, ?_, ?_, ?_, ?_⟩ <;> kernel_rfl
noncomputable abbrev LB44 : Code := .seq Zpt (.seq (.cond (.tmp 34) .skip (.exit 2)) (.seq (.block 3 (.seq ZqB (.seq Zqn (.seq ZpI (.seq Zp5 (.seq (.region 15 (Go.Abs.ops ZhO) false) ZqM)))))) ZpM))
theorem ZuN {raw : List Cus} {i : Nat} {x : Cus} (hx : raw[i]? = some x) : ∃ b : Bool, (Zbb raw).take (i + 1) = (Zbb raw).take i ++ [(x.name, b)] ∧ (b = true ↔ Path (Za3 raw) x.name x.name) := by
  classical
  refine ⟨decide (Path (Za3 raw) x.name x.name), ?_, by simp⟩
  have h : (Zbb raw)[i]? = some (x.name, decide (Path (Za3 raw) x.name x.name)) := by
    unfold Zbb
    rw [List.getElem?_map, hx]
    simp only [Option.map_some]
  exact ZbG h
theorem Zus {raw : List Cus} {x : Cus} (hx : x ∈ raw) : (ZaV BEq.beq x.name (Za3 raw)).isSome = true := by
  unfold Za3
  induction raw with
  | nil => cases hx
  | cons y r ih =>
    simp only [List.map_cons, ZaV]
    cases e : (x.name == y.name) with
    | true => rfl
    | false =>
      rcases List.mem_cons.1 hx with rfl | hx
      · simp at e
      · exact ih hx
theorem ZzA (raw : List Cus) (hn : (raw.map Cus.name).Nodup) (hok : ZhI raw) : Tri C (C.ann 62) (.block 2 (.loop LB44)) ⟨f44 raw 0, [], g44 (Za3 raw) []⟩ (Yc8 (f44 raw raw.length) (g44 (Za3 raw) (Zbb raw))) := by
  have hB : B = 2 ^ 36 := rfl
  obtain ⟨_, _, _, _, _, k10, k11, k12, k13, k14, k16, k17, _⟩ := Yd1
  have hlen : raw.length < 2 ^ 40 := by have := hok.1; omega
  refine ZeO ?_
  refine ZiN (fun m s => ∃ i, i ≤ raw.length ∧ m = raw.length - i ∧ s = ⟨f44 raw i, [], g44 (Za3 raw) ((Zbb raw).take i)⟩) (n := raw.length) ⟨0, Nat.zero_le _, rfl, rfl⟩ ?_
  rintro m s ⟨i, hi, rfl, rfl⟩
  rcases Nat.lt_or_ge i raw.length with hlt | hge
  · have hx := List.getElem?_eq_getElem hlt
    have hnew := Zpa hn hx
    have hO : raw[i].name ∉ ZbN ((Zbb raw).take i) := by
      have : ZbN ((Zbb raw).take i) = (raw.take i).map Cus.name := by
        unfold ZbN Zbb
        rw [← List.map_take, List.map_map]; rfl
      rw [this]; exact hnew
    have hd : decide ((i : Int) < (raw.length : Int)) = true := dlt hlt
    refine ZtL (n := 3) (by simp [g44]) ?_
    refine ZaO (call := Zab C K0) Zae mixed Zah k10 (Zs7 raw i _) ?_
    rw [hd]
    refine ZcE (Q1 := fun o => o = .norm ⟨f44 raw i ++ [(34, .val (.d (.bool true)))], [], g44 (Za3 raw) ((Zbb raw).take i)⟩) (Zhu (b := true) rfl (ZkQ rfl)) ?_ (fun o h1 h2 => absurd h1 (h2 _))
    rintro s hs
    cases hs
    refine ZcE (Q1 := fun o => ∃ S', WalkPost (Za3 raw) [] raw[i].name S' ∧ Yc8 (f44 raw i ++ [(34, .val (.d (.bool true)))]) (H68 (Za3 raw) (ZpY ((Zbb raw).take i ++ [(raw[i].name, decide (raw[i].name ∈ S'))])) S') o) ?_ ?_ (fun o ⟨S', _, s, hs, _⟩ h2 => absurd hs (h2 s))
    · refine ZeO ?_
      refine ZaO (call := Zab C K0) Zae mixed Zah k11 (ZyP raw i _ hx _ _) ?_
      refine ZaO (call := Zab C K0) Zae mixed Zah k12 (YaA raw i raw[i] _ _ _) ?_
      refine ZaO (call := Zab C K0) Zae mixed Zah k13 (Yac raw i raw[i] _ _ _) ?_
      refine ZaO (call := Zab C K0) Zae mixed Zah k14 (ZyE raw i raw[i] _ _ _) ?_
      have hw := Zwl ((Za3 raw).length + 1) (Za3 raw) (ZpY ((Zbb raw).take i)) [] raw[i].name List.nodup_nil (fun m hm => by simp at hm) (Zus (List.getElem_mem hlt)) (by simp)
      refine ZcE (Q1 := fun o => ∃ S', WalkPost (Za3 raw) [] raw[i].name S' ∧ o = .norm ⟨f44 raw i ++ [(34, .val (.d (.bool true))), b44 raw[i], (9, .val (.ptr 4 0)), (10, .val (.ptr 5 0))], [], H68 (Za3 raw) (ZpY ((Zbb raw).take i)) S'⟩)
        (ZgQ (call := Zab C K0) Zae Zah YdT (Yam raw i raw[i] _ _ _) o44_15.1
          (Zhw Zae o44_15.2.2 rfl (fv := .fn 73 [.ptr 1 0, .ptr 4 0, .ptr 5 0]) (vs := [.d (.str raw[i].name)]) (caps := [.ptr 1 0, .ptr 4 0, .ptr 5 0]) rfl rfl rfl hw (fun r h' _ => by
            rw [o44_15.2.1]
            exact ⟨_, rfl⟩)) ?_) ?_ (fun o ⟨S', _, hs⟩ h2 => absurd hs (h2 _))
      · rintro s ⟨r, h', ⟨rfl, S2, hP, rfl⟩, hput⟩
        rw [o44_15.2.1] at hput
        cases hput
        exact ⟨S2, hP, rfl⟩
      · rintro s ⟨S', hP, hs⟩
        cases hs
        refine ZcD (call := Zab C K0) Zae mixed Zah k16 (Yaa raw i raw[i] _ _ S' _ hO) ?_
        simp only [Za1]
        refine ⟨S', hP, _, rfl, ?_⟩
        refine sub_list (s := ⟨f44 raw i ++ [(34, .val (.d (.bool true))), b44 raw[i], (9, .val (.ptr 4 0)), (10, .val (.ptr 5 0))], [], H68 (Za3 raw) (ZpY ((Zbb raw).take i ++ [(raw[i].name, decide (raw[i].name ∈ S'))])) S'⟩) fun p hp => ?_
        simp only [f44, List.cons_append, List.nil_append, List.mem_cons, List.not_mem_nil, or_false] at hp
        rcases hp with rfl | rfl | rfl | rfl | rfl | rfl | rfl | rfl <;> exact ⟨rfl, rfl⟩
    · rintro s ⟨S', hP, s', hs, hsub⟩
      cases hs
      refine Zn8 hsub ?_
      refine ZcD (call := Zab C K0) Zae mixed Zah k17 (ZyA raw i (by omega) _ _) ?_
      obtain ⟨b, hb1, hb2⟩ := ZuN hx
      have hbe : decide (raw[i].name ∈ S') = b := by
        rw [Bool.eq_iff_iff, decide_eq_true_iff, Zwn hP, hb2]
      rw [hbe, ← hb1]
      refine ⟨⟨f44 raw (i + 1), [], g44 (Za3 raw) ((Zbb raw).take (i + 1))⟩, ⟨rfl, rfl, ?_, ?_⟩, ?_⟩
      · intro id o2 ho
        rcases id with _ | _ | _ | id
        · refine ⟨_, rfl, ?_⟩
          cases ho
          refine .map _ _ rfl fun j a b ha hb => ?_
          rw [ha] at hb
          cases hb
          have hm := List.mem_of_getElem? ha
          obtain ⟨p, _, rfl⟩ := List.mem_map.1 hm
          exact ⟨rfl, .d _⟩
        · refine ⟨_, rfl, ?_⟩
          cases ho
          refine .var _ _ rfl fun j a b ha hb => ?_
          rcases j with _ | j
          · cases ha; cases hb; exact .mp 0 (by decide)
          · simp at ha
        · refine ⟨_, rfl, ?_⟩
          cases ho
          refine .map _ _ rfl fun j a b ha hb => ?_
          rw [ha] at hb
          cases hb
          have hm := List.mem_of_getElem? ha
          obtain ⟨p, _, rfl⟩ := List.mem_map.1 hm
          exact ⟨rfl, .d _⟩
        · simp [g44] at ho
      · intro k v2 hv
        refine ⟨v2, ZaR hv, ?_⟩
        have hm := sub_list.alook_mem0' hv
        simp only [f44, List.mem_cons, List.not_mem_nil, or_false, Prod.mk.injEq] at hm
        rcases hm with ⟨_, rfl⟩ | ⟨_, rfl⟩ | ⟨_, rfl⟩ | ⟨_, rfl⟩ | ⟨_, rfl⟩ | ⟨_, rfl⟩ | ⟨_, rfl⟩
        · exact .val _ _ (.d _)
        · exact .val _ _ (.d _)
        · exact .val _ _ (.ptr 1 0 (by decide))
        · exact .val _ _ (.mp 2 (by decide))
        · exact .val _ _ (.d _)
        · exact .val _ _ (.d _)
        · exact .val _ _ (.d _)
      · exact ⟨_, _, by omega, ⟨i + 1, hlt, rfl, rfl⟩, ZsM rfl⟩
  · have he : i = raw.length := by omega
    subst he
    refine ZaO (call := Zab C K0) Zae mixed Zah k10 (Zs7 raw _ _) ?_
    rw [Zpk]
    refine ZcE (Q1 := fun o => o = .exit 2 ⟨f44 raw raw.length ++ [(34, .val (.d (.bool false)))], [], g44 (Za3 raw) ((Zbb raw).take raw.length)⟩) (Zhu (b := false) rfl (ZnG rfl)) (fun s hs => by cases hs) ?_
    rintro o rfl _
    simp only [Za1]
    refine ⟨_, rfl, ?_⟩
    rw [List.take_of_length_le (by simp [Zbb])]
    refine sub_list (s := ⟨f44 raw raw.length ++ [(34, .val (.d (.bool false)))], [], g44 (Za3 raw) (Zbb raw)⟩) fun p hp => ?_
    simp only [f44, List.mem_cons, List.not_mem_nil, or_false] at hp
    rcases hp with rfl | rfl | rfl | rfl | rfl | rfl | rfl <;> exact ⟨rfl, rfl⟩
theorem ZrF (raw : List Cus) (hn : (raw.map Cus.name).Nodup) (hok : ZhI raw) : Has Tryz.prog 62 [.d (d44 raw)] [] (.d (.fmap (ZfI (Zbb raw)))) [] := by
  obtain ⟨k0, k1, k2, k8, k9, _, _, _, _, _, _, _, k18⟩ := Yd1
  have h : HasN Tryz.prog 62 [.d (d44 raw)] [] (fun r h' => r = .mp 2 ∧ h' = g44 (Za3 raw) (Zbb raw)) := by
    refine ZeK (C := C) (f := 62) (fn := Tryz.f62) Tryz.func62 Ybc (by kernel_rfl) ?_
    refine ZaO (call := Zab C K0) Zae mixed Zah k0 (Ybf raw) ?_
    refine ZaO (call := Zab C K0) Zae mixed Zah k1 (YcD raw) ?_
    refine Zhp (ZaO (call := Zab C K0) Zae mixed Zah k2 (Ycl raw) (ZyT raw hn hok)) ?_
    refine ZaO (call := Zab C K0) Zae mixed Zah k8 (Ybg raw _) ?_
    refine Zhp (ZaO (call := Zab C K0) Zae mixed Zah k9 (Yc6 raw _) (ZzA raw hn hok)) ?_
    refine ZaO (call := Zab C K0) Zae mixed Zah k18 (ZzY raw _ _) ?_
    refine ZcD (call := Zab C K0) (n := 0) Zae mixed Zah rfl rfl ?_
    exact ⟨[.mp 2], rfl, rfl, rfl⟩
  refine HasN.frozen (ds := [d44 raw]) h ?_
  rintro r h' ⟨rfl, rfl⟩
  refine ⟨2, ?_⟩
  have : ∀ O : Bm, mapO (fun e : DV × AV => (Abs.freeze (g44 (Za3 raw) (Zbb raw)) 1 e.2).map fun v => (e.1, v)) (ZpY O) = some (ZfI O) := by
    intro O
    induction O with
    | nil => rfl
    | cons p O ih =>
      simp only [ZpY, List.map_cons, mapO, ZfI] at ih ⊢
      simp only [Abs.freeze, Option.map_some, ih]
  simp only [Abs.freeze]
  show (match (g44 (Za3 raw) (Zbb raw))[2]? with
    | some (.map es) => (mapO (fun e : DV × AV => (Abs.freeze (g44 (Za3 raw) (Zbb raw)) 1 e.2).map fun v => (e.1, v)) es).map DV.fmap
    | _ => none) = _
  show (mapO (fun e : DV × AV => (Abs.freeze (g44 (Za3 raw) (Zbb raw)) 1 e.2).map fun v => (e.1, v)) (ZpY (Zbb raw))).map DV.fmap = _
  rw [this]; rfl
end Go.Tev.S1
namespace Go.Abs
theorem A35 : (ann 35).nt = 20 ∧ (ann 35).keep = [0, 2, 3, 5, 7, 8, 9, 10] ∧ (ann 35).take = [] ∧ (ann 35).heapy = [] ∧ (ann 35).frz = [] ∧ (ann 35).lend = [] := ⟨rfl, rfl, rfl, rfl, rfl, rfl⟩
section
variable {C : Ctx} {call : Zaa} {fa : FA} {st st1 s : St} {x y : Code} {Q : Out → Prop}
theorem ZhD (hn : Za0 C.P) (hK : ZaY C.P call) {id : Nat} {pre post : List Oper} {o : Oper} {ops : Array Oper} (hops : ops.toList = pre ++ o :: post) (he : Zai C call fa (pre ++ o :: post) pre st = some st1) (hg : o.guard = none) {Q2 : St → Prop}
    (ho : Yci C fa o st1 Q2) (hq : ∀ s, Q2 s → ∃ s2, Zai C call fa (pre ++ o :: post) post s = some s2 ∧ Q (.norm { s2 with tmp := [] })) : Tri C fa (.region id ops false) st Q := by
  intro own a w S
  refine wp_region_list ?_
  rw [hops]
  have hall : (pre ++ o :: post).toArray = ops := by rw [← hops]
  have key : wpList C.P (pre ++ o :: post).toArray (fun e a' w' => ∃ out, Q out ∧ OutRel C.P fa own st.heap w out e a' w') (pre ++ o :: post) a w := by
    refine ZgE hn hK pre st own a w he S fun a1 w1 own1 S1 F1 E1 => ?_
    simp only [wpList]
    have hw : Region.wanted o (yielded (pre ++ o :: post).toArray a1.tmps) = true := by
      unfold Region.wanted
      rw [hg]
    rw [if_pos hw]
    left
    refine ho own1 a1 w1 S1 _ _ fun a2 w2 s2 own2 hq2 S2 F2 E2 => ?_
    obtain ⟨s3, e3, hq3⟩ := hq s2 hq2
    exact ZcX hn hK post s2 own2 a2 w2 e3 S2 fun a3 w3 own3 S3 F3 E3 => ⟨_, hq3, rfl, own3, S3.dropTmp, (F1.trans F2).trans F3, (E1.trans E2).trans E3⟩
  rw [hall] at key
  exact key
end
end Go.Abs
namespace Go.Tev.S1
open Go.Abs Go.Proofs
abbrev Mv := List (List UInt8 × List Val)
def ZhC (M : Mv) : List (DV × AV) := M.map fun p => (.str p.1, .d (.slc (p.2.map Val.enc)))
def Znx (raw : List Cus) : Mv := raw.map fun x => (x.name, x.val)
theorem ZgU (a : List UInt8) (v : List Val) : ∀ M : Mv, a ∉ M.map Prod.fst → Zrx (.str a) (.d (.slc (v.map Val.enc))) (ZhC M) = some (ZhC (M ++ [(a, v)]))
  | [], _ => rfl
  | (k, c) :: r, h => by
    have ih := ZgU a v r (fun hm => h (List.mem_cons_of_mem _ hm))
    have e : (a == k) = false := by
      rw [beq_eq_false_iff_ne]
      intro e
      exact h (by rw [e]; exact List.mem_cons_self)
    simp only [ZhC, List.map_cons, List.cons_append, Zrx, ZdQ, e] at ih ⊢
    simp only [ih, Option.map_some]
noncomputable abbrev B40 : Code := Zac Tryz.f35
noncomputable abbrev X40 : Code := sq1 (sq2 (sq2 B40))
noncomputable abbrev L40 : Code := inn (inn (sq2 X40))
noncomputable abbrev YaD : Code := sq1 B40
noncomputable abbrev Zyy : Code := sq1 (sq2 B40)
noncomputable abbrev Zzo : Code := sq1 X40
noncomputable abbrev Zz9 : Code := sq1 (sq2 (sq2 (sq2 B40)))
theorem Ycf : Tryz.f35.body = some (.seq YaD (.seq Zyy (.seq (.seq Zzo (.block 0 (.loop L40))) (.seq Zz9 .ret)))) := by kernel_rfl
theorem YeB : okC (C.ann 35) YaD = true ∧ okC (C.ann 35) Zyy = true ∧ okC (C.ann 35) Zzo = true ∧ okC (C.ann 35) L40 = true ∧ okC (C.ann 35) Zz9 = true := by
  refine ⟨?_, ?_, ?_, ?_, ?_⟩ <;> kernel_rfl
theorem m70 : C.isMap 60 = true := by kernel_rfl
theorem z70 : C.mapZero 60 = some (.slc []) := by kernel_rfl
theorem k70 (a : List UInt8) : C.keyOk 60 (.str a) = true := by
  have h : C.P.underlying 60 = some (.map 9 22) := by kernel_rfl
  have h2 : C.P.underlying 9 = some .string := by kernel_rfl
  simp only [Ctx.keyOk, h, h2]
def e40 (raw : List Cus) (i : Nat) : List (Nat × SV) := [(0, .val (.d (d44 raw))), (2, .val (.d .nilm)), (3, .val (.mp 1)), (7, .val (.d (d44 raw))), (8, .val (.d (.int .i64 raw.length))), (9, .val (.d (.int .i64 i)))]
section
attribute [local simp] List.getElem?_cons_zero Option.bind_some Zvm Zd4 Zcj Zbd ZfC ZdL Zcx ZjI ZfE ZdG Zfm Zfv Zjh Zfx Zb6 Zbt ZiO ZaS ZaZ ZjM ZaW Zcq Zdh ZdR Zca has opx opd opA opD XV.flat XV.copy oD oA Zad ins ZlS ZfU St.put St.putOwn St.lose St.loseEnv unal ZjC ZjK Zpi dUn Zgv Zay ZbV Zbc Za8 ZaN Zcc ZbA ZbZ ZhU Zbs AV.cells AV.cellOk AV.single DV.cellOk Zuw Zvx Zu2 DV.cells ZaK ZeU ZaG ZbW ZaH ZaX Zj5 ZaU Zeb mapO AV.toD ZaB ZbR Zd5 optD Zb2 Za5 Zfl Zao ZbQ ZbH ZaF ZdB Zc1 Zbi St.trim Out.st
theorem Ycm {call : Zaa} (raw : List Cus) (o : AObj) : evQ C call (ann 35) 0 YaD ⟨ZgA 0 [.d (d44 raw)], [], [o]⟩ = some (.norm ⟨[(0, .val (.d (d44 raw))), (2, .val (.d .nilm))], [], [o]⟩) := by
  unfold YaD B40 Zac Tryz.f35
  simp only [Option.getD_some, sq1, ZgA]
  simp [-getElem?_pos, A35, Zai]
theorem YcH {call : Zaa} (raw : List Cus) (o : AObj) : evQ C call (ann 35) 0 Zyy ⟨[(0, .val (.d (d44 raw))), (2, .val (.d .nilm))], [], [o]⟩ = some (.norm ⟨[(0, .val (.d (d44 raw))), (2, .val (.d .nilm)), (3, .val (.mp 1))], [], [o, .map []]⟩) := by
  unfold Zyy B40 Zac Tryz.f35
  simp only [Option.getD_some, sq1, sq2]
  simp [-getElem?_pos, A35, Zai, m70]
theorem Yba {call : Zaa} (raw : List Cus) (o : AObj) : evQ C call (ann 35) 0 Zzo ⟨[(0, .val (.d (d44 raw))), (2, .val (.d .nilm)), (3, .val (.mp 1))], [], [o, .map []]⟩ = some (.norm ⟨e40 raw 0, [], [o, .map (ZhC [])]⟩) := by
  unfold Zzo X40 B40 Zac Tryz.f35 e40 d44 ZhC
  simp only [Option.getD_some, sq1, sq2]
  simp [-getElem?_pos, A35, Zai, ZuJ]
theorem Ybz {call : Zaa} (raw : List Cus) (i : Nat) (x : Cus) (hx : raw[i]? = some x) (hl : raw.length < 2 ^ 40) (M : Mv) (hM : x.name ∉ M.map Prod.fst) (o : AObj) :
    evQ C call (ann 35) 0 L40 ⟨e40 raw i, [], [o, .map (ZhC M)]⟩ = some (.norm ⟨e40 raw (i + 1) ++ [(10, .val (.d (.bool true)))], [], [o, .map (ZhC (M ++ [(x.name, x.val)]))]⟩) := by
  have hlt : i < raw.length := (List.getElem?_eq_some_iff.1 hx).1
  have hw : IntKind.i64.wrap ((i : Int) + 1) = (i : Int) + 1 := Za7 (by omega)
  have hg := ZlJ hx
  have hi := YbA hlt
  unfold L40 X40 B40 Zac Tryz.f35 e40 d44
  simp only [Option.getD_some, sq1, sq2, inn]
  simp [-getElem?_pos, A35, Zai, ZuJ, hlt, hw, hg, hi, Ydo, Ydl, Ydp, ZjZ, Zob, hz9, ZzT, ag9, ZyK, z70, k70, ZgU _ _ M hM, St.trim, Zbi, AV.cellOk, -List.getElem?_map]
theorem Ycg {call : Zaa} (raw : List Cus) (h : List AObj) : evQ C call (ann 35) 0 L40 ⟨e40 raw raw.length, [], h⟩ = some (.exit 0 ⟨e40 raw raw.length ++ [(10, .val (.d (.bool false)))], [], h⟩) := by
  unfold L40 X40 B40 Zac Tryz.f35 e40 d44
  simp only [Option.getD_some, sq1, sq2, inn]
  simp [-getElem?_pos, A35, Zai]
theorem YcM {call : Zaa} (raw : List Cus) (h : List AObj) (i : Nat) : evQ C call (ann 35) 0 Zz9 ⟨e40 raw i, [], h⟩ = some (.norm ⟨[(0, .val (.d (d44 raw))), (2, .val (.mp 1)), (3, .val (.mp 1)), (7, .val (.d (d44 raw))), (8, .val (.d (.int .i64 raw.length))), (9, .val (.d (.int .i64 i)))], [], h⟩) := by
  unfold Zz9 B40 Zac Tryz.f35 e40
  simp only [Option.getD_some, sq1, sq2]
  simp [-getElem?_pos, A35, Zai]
end
theorem Zjr (raw : List Cus) : (Znx raw).map Prod.fst = raw.map Cus.name := by simp [Znx, List.map_map, Function.comp_def]
theorem Zuu (raw : List Cus) (hn : (raw.map Cus.name).Nodup) (hl : raw.length < 2 ^ 40) (o : AObj) : HasN Tryz.prog 35 [.d (d44 raw)] [o] (fun r h' => r = .mp 1 ∧ h' = [o, .map (ZhC (Znx raw))]) := by
  obtain ⟨k0, k1, k2, kL, k7⟩ := YeB
  refine ZeK (C := C) (f := 35) (fn := Tryz.f35) Tryz.func35 Ycf (by kernel_rfl) ?_
  refine ZaO (call := Zab C K0) Zae mixed Zah k0 (Ycm raw o) ?_
  refine ZaO (call := Zab C K0) Zae mixed Zah k1 (YcH raw o) ?_
  refine Zhp (e := e40 raw raw.length) (h := [o, .map (ZhC (Znx raw))]) (ZaO (call := Zab C K0) Zae mixed Zah k2 (Yba raw o) (ZeO (ZiN (fun m s => ∃ i, i ≤ raw.length ∧ m = raw.length - i ∧ s = ⟨e40 raw i, [], [o, .map (ZhC ((Znx raw).take i))]⟩) (n := raw.length) ⟨0, Nat.zero_le _, rfl, rfl⟩ ?_))) ?_
  · rintro m s ⟨i, hi, rfl, rfl⟩
    rcases Nat.lt_or_ge i raw.length with hlt | hge
    · have hx := List.getElem?_eq_getElem hlt
      have hM : raw[i].name ∉ ((Znx raw).take i).map Prod.fst := by
        rw [List.map_take, Zjr, ← List.map_take]
        exact Zpa hn hx
      refine ZcD (call := Zab C K0) Zae mixed Zah kL (Ybz raw i _ hx hl _ hM o) ?_
      refine ⟨raw.length - (i + 1), ⟨e40 raw (i + 1), [], _⟩, by omega, ⟨i + 1, hlt, rfl, rfl⟩, fun k v hv => ?_, rfl, ?_⟩
      · exact ZaR hv
      · have : (Znx raw)[i]? = some (raw[i].name, raw[i].val) := by unfold Znx; rw [List.getElem?_map, hx]; rfl
        rw [ZbG this]
    · have he : i = raw.length := by omega
      subst he
      refine ZcD (call := Zab C K0) Zae mixed Zah kL (Ycg raw _) ?_
      simp only [Za1]
      refine ⟨_, rfl, ?_⟩
      rw [List.take_of_length_le (by simp [Znx])]
      refine sub_list (s := ⟨e40 raw raw.length ++ [(10, .val (.d (.bool false)))], [], [o, .map (ZhC (Znx raw))]⟩) fun p hp => ?_
      simp only [e40, List.mem_cons, List.not_mem_nil, or_false] at hp
      rcases hp with rfl | rfl | rfl | rfl | rfl | rfl <;> exact ⟨rfl, rfl⟩
  · refine ZaO (call := Zab C K0) Zae mixed Zah k7 (YcM raw _ _) ?_
    refine ZcD (call := Zab C K0) (n := 0) Zae mixed Zah rfl rfl ?_
    exact ⟨[.mp 1], rfl, rfl, rfl⟩
end Go.Tev.S1
namespace Go.Tev.S1
open Go.Abs Go.Proofs
noncomputable abbrev B25 : Code := Zac Tryz.f43
noncomputable abbrev S25 : Code := inn (sq2 B25)
noncomputable abbrev W25 : Code := sq1 (sq2 (sq2 (sq2 S25)))
noncomputable abbrev Zxw : Code := inn (inn (sq2 W25))
noncomputable abbrev Zy5 : Code := inn (sq2 (sq2 Zxw))
noncomputable abbrev T25 : Code := sq2 (sq2 (sq2 (sq2 (sq2 S25))))
noncomputable abbrev U25 : Code := sq1 T25
noncomputable abbrev Zgq : Code := inn (inn (sq2 U25))
noncomputable abbrev Zhy : Code := inn (sq1 (sq2 (sq2 Zgq)))
noncomputable abbrev Zh6 : Code := sq2 (sq2 Zhy)
noncomputable abbrev G25 : Code := sq1 (sq2 (sq2 (sq2 Zh6)))
noncomputable abbrev ZwX : Code := inn (inn (sq2 G25))
noncomputable abbrev Zzy : Code := inn (sq2 (sq2 ZwX))
noncomputable abbrev ZxM : Code := sq2 (sq2 (sq2 (sq2 Zh6)))
noncomputable abbrev Yal : Code := sq2 ZxM
noncomputable abbrev N25 : Code := sq1 (sq2 (sq2 T25))
noncomputable abbrev ZoT : Code := inn (inn (sq2 N25))
noncomputable abbrev Zz4 : Code := sq1 B25
noncomputable abbrev Zkv : Code := sq1 S25
noncomputable abbrev Zzp : Code := sq1 (sq2 S25)
noncomputable abbrev ZkA : Code := sq1 (sq2 (sq2 S25))
noncomputable abbrev Zog : Code := sq1 W25
noncomputable abbrev ZnO : Code := sq1 Zxw
noncomputable abbrev ZoG : Code := sq1 Zy5
noncomputable abbrev Zyo : Code := sq2 Zy5
noncomputable abbrev Zxs : Code := sq1 U25
noncomputable abbrev Zs5 : Code := sq1 Zgq
noncomputable abbrev ZtS : Code := sq2 (sq2 (sq2 Zgq))
noncomputable abbrev ZtY : Code := sq1 Zhy
noncomputable abbrev Znc : Code := sq1 (sq2 Zhy)
noncomputable abbrev ZtD : Code := sq1 Zh6
noncomputable abbrev ZtP : Code := sq1 (sq2 Zh6)
noncomputable abbrev Zue : Code := sq1 (sq2 (sq2 Zh6))
noncomputable abbrev ZiJ : Code := sq1 G25
noncomputable abbrev Zi1 : Code := sq1 ZwX
noncomputable abbrev ZiH : Code := sq1 Zzy
noncomputable abbrev ZsJ : Code := sq2 Zzy
noncomputable abbrev Zrm : Code := sq1 ZxM
noncomputable abbrev ZsR : Code := sq1 Yal
noncomputable abbrev Ztu : Code := sq1 (sq2 Yal)
noncomputable abbrev Zt6 : Code := sq1 (sq2 T25)
noncomputable abbrev ZpS : Code := sq1 N25
noncomputable abbrev Ztw : Code := sq1 (sq2 (sq2 (sq2 T25)))
theorem Ybx : Tryz.f43.body = some (.seq Zz4 (.scope S25)) := by kernel_rfl
noncomputable abbrev YaP : Code := .seq (.region 4 (Go.Abs.ops Zog) false) (.block 0 (.loop (.seq (.region 5 (Go.Abs.ops ZnO) false) (.seq (.cond (.tmp 32) .skip (.exit 0)) (.block 1 (.seq (.region 6 (Go.Abs.ops ZoG) false) Zyo))))))
noncomputable abbrev YaK : Code := .seq (.region 17 (Go.Abs.ops ZiJ) false) (.block 4 (.loop (.seq (.region 18 (Go.Abs.ops Zi1) false) (.seq (.cond (.tmp 62) .skip (.exit 4)) (.block 5 (.seq (.region 19 (Go.Abs.ops ZiH) false) ZsJ))))))
noncomputable abbrev BD25 : Code := .seq ZtY (.seq Znc (.seq ZtD (.seq ZtP (.seq Zue (.seq YaK (.seq Zrm (.seq ZsR (.seq Ztu (.goto 0)))))))))
noncomputable abbrev LP25 : Code := .block 2 (.loop (.seq Zs5 (.seq (.cond (.tmp 42) .skip (.exit 2)) (.seq (.block 3 BD25) ZtS))))
noncomputable abbrev Yew : Code := .seq (.seq Zxs LP25) (.seq Zt6 (.seq (.seq ZpS (.block 6 (.loop ZoT))) (.seq Ztw .ret)))
theorem Yar : S25 = .seq (.region 1 (Go.Abs.ops Zkv) false) (.seq Zzp (.seq (.region 3 (Go.Abs.ops ZkA) false) (.seq YaP (.seq (.label 0) Yew)))) := by kernel_rfl
theorem Ztg : okC (C.ann 43) Zz4 = true ∧ okC (C.ann 43) Zzp = true ∧ okC (C.ann 43) Zyo = true ∧ okC (C.ann 43) Zxs = true ∧ okC (C.ann 43) Zs5 = true ∧ okC (C.ann 43) ZtY = true ∧ okC (C.ann 43) Znc = true ∧ okC (C.ann 43) ZtD = true ∧ okC (C.ann 43) ZtP = true := by
  refine ⟨?_, ?_, ?_, ?_, ?_, ?_, ?_, ?_, ?_⟩ <;> kernel_rfl
theorem Zp7 : okC (C.ann 43) Zue = true ∧ okC (C.ann 43) ZsJ = true ∧ okC (C.ann 43) Zrm = true ∧ okC (C.ann 43) ZsR = true ∧ okC (C.ann 43) Ztu = true ∧ okC (C.ann 43) ZtS = true ∧ okC (C.ann 43) Zt6 = true ∧ okC (C.ann 43) ZpS = true ∧ okC (C.ann 43) ZoT = true ∧ okC (C.ann 43) Ztw = true := by
  refine ⟨?_, ?_, ?_, ?_, ?_, ?_, ?_, ?_, ?_, ?_⟩ <;> kernel_rfl
def E25 (raw : List Cus) (D : Bm) : List (Nat × SV) := [(0, .val (.d (d44 raw))), (2, .val (.d (.slc []))), (3, .val (.d (.fmap (ZfI D)))), (4, .val (.mp 0)), (5, .val (.mp 1))]
def H25 (Sv Op : Mv) : List AObj := [.map (ZhC Sv), .map (ZhC Op)]
theorem ZdH (a : List UInt8) : ∀ M : Mv, Zf6 (.str a) (ZhC M) = some ((ZaV BEq.beq a M).map fun v => .d (.slc (v.map Val.enc)))
  | [] => rfl
  | (k, u) :: r => by
    have ih := ZdH a r
    simp only [ZhC, List.map_cons, Zf6, ZdQ, ZaV] at ih ⊢
    cases (a == k)
    · simpa using ih
    · rfl
def rmv (a : List UInt8) (M : Mv) : Mv := M.filter fun p => !(a == p.1)
theorem Zml (a : List UInt8) : ∀ M : Mv, (M.map Prod.fst).Nodup → Zye (.str a) (ZhC M) = some (ZhC (rmv a M))
  | [], _ => rfl
  | (k, u) :: r, h => by
    rw [List.map_cons, List.nodup_cons] at h
    have ih := Zml a r h.2
    simp only [ZhC, List.map_cons, Zye, ZdQ, rmv] at ih ⊢
    cases e : (a == k) with
    | false =>
      simp only [ih, Option.map_some, List.filter_cons, e, Bool.not_false, if_true, List.map_cons]
    | true =>
      rw [beq_iff_eq] at e
      subst e
      have : r.filter (fun p => !(a == p.1)) = r := by
        rw [List.filter_eq_self]
        intro p hp
        have : a ≠ p.1 := fun e => h.1 (by rw [e]; exact List.mem_map.2 ⟨p, hp, rfl⟩)
        simpa using this
      simp only [List.filter_cons, beq_self_eq_true, Bool.not_true, Bool.false_eq_true, if_false, this]
section
attribute [local simp] List.getElem?_cons_zero Option.bind_some Zvm Zd4 Zcj Zbd ZfC ZdL Zcx ZjI ZfE ZdG Zfm Zfv Zjh Zfx Zb6 Zbt ZiO ZaS ZaZ ZjM ZaW Zcq Zdh ZdR Zca has opx opd opA opD XV.flat XV.copy oD oA Zad ins ZlS ZfU St.put St.putOwn St.lose St.loseEnv unal ZjC ZjK Zpi dUn Zgv Zay ZbV Zbc Za8 ZaN Zcc ZbA ZbZ ZhU Zbs AV.cells AV.cellOk AV.single DV.cellOk Zuw Zvx Zu2 DV.cells ZaK ZeU ZaG ZbW ZaH ZaX Zj5 ZaU Zeb mapO AV.toD ZaB ZbR Zd5 optD Zb2 Za5 Zfl Zao ZbQ ZbH ZaF ZdB Zc1 Zbi St.trim Out.st
theorem Yb2 {call : Zaa} (raw : List Cus) : evQ C call (ann 43) 0 Zz4 ⟨ZgA 0 [.d (d44 raw)], [], []⟩ = some (.norm ⟨[(0, .val (.d (d44 raw))), (2, .val (.d (.slc [])))], [], []⟩) := by
  unfold Zz4 B25 Zac Tryz.f43
  simp only [Option.getD_some, sq1, ZgA]
  simp [-getElem?_pos, A43, Zai]
theorem YeE : (Go.Abs.ops Zkv).toList = (opsL Zkv).take 1 ++ (opsL Zkv).getD 1 (op0 []) :: (opsL Zkv).drop 2 := by kernel_rfl
theorem o25_1 : ((opsL Zkv).getD 1 (op0 [])).guard = none ∧ ((opsL Zkv).getD 1 (op0 [])).dst = some 25 ∧ ((opsL Zkv).getD 1 (op0 [])).op = .call { callee := .value (.func 62), args := #[.tmp 24], argTypes := #[23] } := by
  refine ⟨?_, ?_, ?_⟩ <;> kernel_rfl
theorem YeT : (Go.Abs.ops ZkA).toList = (opsL ZkA).take 1 ++ (opsL ZkA).getD 1 (op0 []) :: (opsL ZkA).drop 2 := by kernel_rfl
theorem o25_3 : ((opsL ZkA).getD 1 (op0 [])).guard = none ∧ ((opsL ZkA).getD 1 (op0 [])).dst = some 28 ∧ ((opsL ZkA).getD 1 (op0 [])).op = .call { callee := .value (.func 35), args := #[.tmp 27], argTypes := #[23] } := by
  refine ⟨?_, ?_, ?_⟩ <;> kernel_rfl
theorem Yb9 {call : Zaa} {all : List Oper} (raw : List Cus) : Zai C call (ann 43) all ((opsL Zkv).take 1) ⟨[(0, .val (.d (d44 raw))), (2, .val (.d (.slc [])))], [], []⟩ = some ⟨[(0, .val (.d (d44 raw))), (2, .val (.d (.slc [])))], [(24, .a (.d (d44 raw)))], []⟩ := by
  unfold opsL Go.Abs.ops Zkv S25 B25 Zac Tryz.f43
  simp only [Option.getD_some, sq1, sq2, inn]
  simp [-getElem?_pos, A43, Zai]
theorem Zyw {call : Zaa} {all : List Oper} (raw : List Cus) (D : Bm) : Zai C call (ann 43) all ((opsL Zkv).drop 2) ⟨[(0, .val (.d (d44 raw))), (2, .val (.d (.slc [])))], [(25, .a (.d (.fmap (ZfI D)))), (24, .a (.d (d44 raw)))], []⟩ =
    some ⟨[(0, .val (.d (d44 raw))), (2, .val (.d (.slc []))), (3, .val (.d (.fmap (ZfI D))))], [(25, .a (.d (.fmap (ZfI D)))), (24, .a (.d (d44 raw)))], []⟩ := by
  unfold opsL Go.Abs.ops Zkv S25 B25 Zac Tryz.f43
  simp only [Option.getD_some, sq1, sq2, inn]
  simp [-getElem?_pos, A43, Zai]
theorem Ydc {call : Zaa} (raw : List Cus) (D : Bm) : evQ C call (ann 43) 0 Zzp ⟨[(0, .val (.d (d44 raw))), (2, .val (.d (.slc []))), (3, .val (.d (.fmap (ZfI D))))], [], []⟩ = some (.norm ⟨[(0, .val (.d (d44 raw))), (2, .val (.d (.slc []))), (3, .val (.d (.fmap (ZfI D)))), (4, .val (.mp 0))], [], [.map []]⟩) := by
  unfold Zzp S25 B25 Zac Tryz.f43
  simp only [Option.getD_some, sq1, sq2, inn]
  simp [-getElem?_pos, A43, Zai, m70]
theorem Ycd {call : Zaa} {all : List Oper} (raw : List Cus) (D : Bm) : Zai C call (ann 43) all ((opsL ZkA).take 1) ⟨[(0, .val (.d (d44 raw))), (2, .val (.d (.slc []))), (3, .val (.d (.fmap (ZfI D)))), (4, .val (.mp 0))], [], [.map []]⟩ =
    some ⟨[(0, .val (.d (d44 raw))), (2, .val (.d (.slc []))), (3, .val (.d (.fmap (ZfI D)))), (4, .val (.mp 0))], [(27, .a (.d (d44 raw)))], [.map []]⟩ := by
  unfold opsL Go.Abs.ops ZkA S25 B25 Zac Tryz.f43
  simp only [Option.getD_some, sq1, sq2, inn]
  simp [-getElem?_pos, A43, Zai]
theorem ZzF {call : Zaa} {all : List Oper} (raw : List Cus) (D : Bm) (h : List AObj) : Zai C call (ann 43) all ((opsL ZkA).drop 2) ⟨[(0, .val (.d (d44 raw))), (2, .val (.d (.slc []))), (3, .val (.d (.fmap (ZfI D)))), (4, .val (.mp 0))], [(28, .a (.mp 1)), (27, .a (.d (d44 raw)))], h⟩ =
    some ⟨E25 raw D, [(28, .a (.mp 1)), (27, .a (.d (d44 raw)))], h⟩ := by
  unfold opsL Go.Abs.ops ZkA S25 B25 Zac Tryz.f43 E25
  simp only [Option.getD_some, sq1, sq2, inn]
  simp [-getElem?_pos, A43, Zai]
theorem YeJ : (Go.Abs.ops Zog).toList = (opsL Zog).take 1 ++ [opZ (opsL Zog)] := by kernel_rfl
theorem o25_4 : (opZ (opsL Zog)).op = .range 62 (.tmp 29) ∧ (opZ (opsL Zog)).guard = none ∧ (opZ (opsL Zog)).dst = some 30 := by
  refine ⟨?_, ?_, ?_⟩ <;> kernel_rfl
theorem YbY {call : Zaa} {all : List Oper} (raw : List Cus) (D : Bm) (h : List AObj) : Zai C call (ann 43) all ((opsL Zog).take 1) ⟨E25 raw D, [], h⟩ = some ⟨E25 raw D, [(29, .a (.d (.fmap (ZfI D))))], h⟩ := by
  unfold opsL Go.Abs.ops Zog W25 S25 B25 Zac Tryz.f43 E25
  simp only [Option.getD_some, sq1, sq2, inn]
  simp [-getElem?_pos, A43, Zai]
theorem Ye3 : (Go.Abs.ops ZnO).toList = op0 (opsL ZnO) :: (opsL ZnO).drop 1 := by kernel_rfl
theorem o25_5 : (op0 (opsL ZnO)).op = .next (.tmp 30) false ∧ (op0 (opsL ZnO)).guard = none ∧ (op0 (opsL ZnO)).dst = some 31 := by
  refine ⟨?_, ?_, ?_⟩ <;> kernel_rfl
theorem YeM : (Go.Abs.ops ZoG).toList = op0 (opsL ZoG) :: (opsL ZoG).drop 1 := by kernel_rfl
theorem o25_6 : (op0 (opsL ZoG)).op = .entry (.tmp 30) ∧ (op0 (opsL ZoG)).guard = none ∧ (op0 (opsL ZoG)).dst = some 33 := by
  refine ⟨?_, ?_, ?_⟩ <;> kernel_rfl
def ZvE (raw : List Cus) (D : Bm) (p : Value) : List (Nat × SV) := E25 raw D ++ [(30, .val (.raw p))]
theorem ZxF {call : Zaa} {all : List Oper} (raw : List Cus) (D : Bm) (p : Value) (h : List AObj) (b : Bool) (vs : List DV) :
    Zai C call (ann 43) all ((opsL ZnO).drop 1) ⟨ZvE raw D p, [(31, .a (.d (.tup (.bool b :: vs))))], h⟩ = some ⟨ZvE raw D p ++ [(32, .val (.d (.bool b)))], [(31, .a (.d (.tup (.bool b :: vs))))], h⟩ := by
  unfold opsL Go.Abs.ops ZnO Zxw W25 S25 B25 Zac Tryz.f43 ZvE E25
  simp only [Option.getD_some, sq1, sq2, inn]
  simp [-getElem?_pos, A43, Zai]
theorem Ya7 {call : Zaa} {all : List Oper} (raw : List Cus) (D : Bm) (p : Value) (h : List AObj) (k v : DV) :
    Zai C call (ann 43) all ((opsL ZoG).drop 1) ⟨ZvE raw D p ++ [(32, .val (.d (.bool true)))], [(33, .a (.d (.tup [k, v])))], h⟩ = some ⟨ZvE raw D p ++ [(32, .val (.d (.bool true))), (6, .val (.d k)), (7, .val (.d v))], [(35, .a (.d v)), (34, .a (.d k)), (33, .a (.d (.tup [k, v])))], h⟩ := by
  unfold opsL Go.Abs.ops ZoG Zy5 Zxw W25 S25 B25 Zac Tryz.f43 ZvE E25
  simp only [Option.getD_some, sq1, sq2, inn]
  simp [-getElem?_pos, A43, Zai]
theorem Yb0 {call : Zaa} (raw : List Cus) (D : Bm) (p : Value) (Sv Op : Mv) (hO : (Op.map Prod.fst).Nodup) (a : List UInt8) (b : Bool) :
    evQ C call (ann 43) 0 Zyo ⟨ZvE raw D p ++ [(32, .val (.d (.bool true))), (6, .val (.d (.str a))), (7, .val (.d (.bool b)))], [], H25 Sv Op⟩ =
      some (.norm ⟨ZvE raw D p ++ [(32, .val (.d (.bool true))), (6, .val (.d (.str a))), (7, .val (.d (.bool b))), (36, .val (.d (.bool b)))], [], H25 Sv (bif b then rmv a Op else Op)⟩) := by
  unfold Zyo Zy5 Zxw W25 S25 B25 Zac Tryz.f43 ZvE E25 H25
  simp only [Option.getD_some, sq1, sq2, inn]
  cases b
  · simp [-getElem?_pos, A43, Zai]
  · simp [-getElem?_pos, A43, Zai, Zho, z70, k70, Zml a Op hO]
end
end Go.Tev.S1
namespace Go.Tev.S1
open Go.Abs Go.Proofs
def F25 (raw : List Cus) (D : Bm) (i : Nat) : List (Nat × SV) := E25 raw D ++ [(39, .val (.d (d44 raw))), (40, .val (.d (.int .i64 raw.length))), (41, .val (.d (.int .i64 i)))]
def x25 (x : Cus) : Nat × SV := (9, .box [.str x.name, .slc (x.val.map Val.enc)])
section
attribute [local simp] List.getElem?_cons_zero Option.bind_some Zvm Zd4 Zcj Zbd ZfC ZdL Zcx ZjI ZfE ZdG Zfm Zfv Zjh Zfx Zb6 Zbt ZiO ZaS ZaZ ZjM ZaW Zcq Zdh ZdR Zca has opx opd opA opD XV.flat XV.copy oD oA Zad ins ZlS ZfU St.put St.putOwn St.lose St.loseEnv unal ZjC ZjK Zpi dUn Zgv Zay ZbV Zbc Za8 ZaN Zcc ZbA ZbZ ZhU Zbs AV.cells AV.cellOk AV.single DV.cellOk Zuw Zvx Zu2 DV.cells ZaK ZeU ZaG ZbW ZaH ZaX Zj5 ZaU Zeb mapO AV.toD ZaB ZbR Zd5 optD Zb2 Za5 Zfl Zao ZbQ ZbH ZaF ZdB Zc1 Zbi St.trim Out.st
theorem YcV {call : Zaa} (raw : List Cus) (D : Bm) (h : List AObj) : evQ C call (ann 43) 0 Zxs ⟨E25 raw D, [], h⟩ = some (.norm ⟨F25 raw D 0, [], h⟩) := by
  unfold Zxs U25 T25 S25 B25 Zac Tryz.f43 F25 E25 d44
  simp only [Option.getD_some, sq1, sq2, inn]
  simp [-getElem?_pos, A43, Zai, ZuJ]
theorem Zzr {call : Zaa} (raw : List Cus) (D : Bm) (i : Nat) (h : List AObj) : evQ C call (ann 43) 0 Zs5 ⟨F25 raw D i, [], h⟩ = some (.norm ⟨F25 raw D i ++ [(42, .val (.d (.bool (decide ((i : Int) < (raw.length : Int))))))], [], h⟩) := by
  unfold Zs5 Zgq U25 T25 S25 B25 Zac Tryz.f43 F25 E25
  simp only [Option.getD_some, sq1, sq2, inn]
  simp [-getElem?_pos, A43, Zai]
theorem Yaj {call : Zaa} (raw : List Cus) (D : Bm) (i : Nat) (hl : i + 1 < 2 ^ 63) (v : SV) (h : List AObj) : evQ C call (ann 43) 0 ZtS ⟨F25 raw D i ++ [(42, v)], [], h⟩ = some (.norm ⟨F25 raw D (i + 1) ++ [(42, v)], [], h⟩) := by
  have hw : IntKind.i64.wrap ((i : Int) + 1) = (i : Int) + 1 := Za7 hl
  unfold ZtS Zgq U25 T25 S25 B25 Zac Tryz.f43 F25 E25
  simp only [Option.getD_some, sq1, sq2, inn]
  simp [-getElem?_pos, A43, Zai, hw]
theorem Zyp {call : Zaa} (raw : List Cus) (D : Bm) (i : Nat) (x : Cus) (hx : raw[i]? = some x) (v : SV) (h : List AObj) : evQ C call (ann 43) 0 ZtY ⟨F25 raw D i ++ [(42, v)], [], h⟩ = some (.norm ⟨F25 raw D i ++ [(42, v), x25 x], [], h⟩) := by
  have hlt : i < raw.length := (List.getElem?_eq_some_iff.1 hx).1
  have hg := ZlJ hx
  have hi := YbA hlt
  unfold ZtY Zhy Zgq U25 T25 S25 B25 Zac Tryz.f43 F25 E25 x25 d44
  simp only [Option.getD_some, sq1, sq2, inn]
  simp [-getElem?_pos, A43, Zai, ZuJ, hg, hi, Ydo, Ydl, Ydp, -List.getElem?_map]
theorem Zx8 {call : Zaa} (raw : List Cus) (D : Bm) (i : Nat) (x : Cus) (v : SV) (Sv Op : Mv) (hO : ZaV BEq.beq x.name Op = none) : evQ C call (ann 43) 0 Znc ⟨F25 raw D i ++ [(42, v), x25 x], [], H25 Sv Op⟩ =
    some (.exit 3 ⟨F25 raw D i ++ [(42, v), x25 x, (11, .val (.d (.bool false))), (53, .val (.d (.bool true)))], [], H25 Sv Op⟩) := by
  unfold Znc Zhy Zgq U25 T25 S25 B25 Zac Tryz.f43 F25 E25 x25 H25
  simp only [Option.getD_some, sq1, sq2, inn]
  simp [-getElem?_pos, A43, Zai, ZjZ, hz9, ag9, Zbn, z70, k70, ZdH, hO]
theorem Zxm {call : Zaa} (raw : List Cus) (D : Bm) (i : Nat) (x : Cus) (v : SV) (Sv Op : Mv) {u : List Val} (hO : ZaV BEq.beq x.name Op = some u) : evQ C call (ann 43) 0 Znc ⟨F25 raw D i ++ [(42, v), x25 x], [], H25 Sv Op⟩ =
    some (.norm ⟨F25 raw D i ++ [(42, v), x25 x, (11, .val (.d (.bool true))), (53, .val (.d (.bool false)))], [], H25 Sv Op⟩) := by
  unfold Znc Zhy Zgq U25 T25 S25 B25 Zac Tryz.f43 F25 E25 x25 H25
  simp only [Option.getD_some, sq1, sq2, inn]
  simp [-getElem?_pos, A43, Zai, ZjZ, hz9, ag9, Zbn, z70, k70, ZdH, hO, Zc1, Zeb, mapO, AV.toD]
def b25 (raw : List Cus) (D : Bm) (i : Nat) (x : Cus) : List (Nat × SV) := F25 raw D i ++ [(42, .val (.d (.bool true))), x25 x, (11, .val (.d (.bool true))), (53, .val (.d (.bool false)))]
theorem Yab {call : Zaa} (raw : List Cus) (D : Bm) (i : Nat) (x : Cus) (Sv Op : Mv) : evQ C call (ann 43) 0 ZtD ⟨b25 raw D i x, [], H25 Sv Op⟩ = some (.norm ⟨b25 raw D i x ++ [(12, .val (.mp 2))], [], H25 Sv Op ++ [.map []]⟩) := by
  unfold ZtD Zh6 Zhy Zgq U25 T25 S25 B25 Zac Tryz.f43 b25 F25 E25 x25 H25
  simp only [Option.getD_some, sq1, sq2, inn]
  simp [-getElem?_pos, A43, Zai, Ybd]
theorem Zyx {call : Zaa} (raw : List Cus) (D : Bm) (i : Nat) (x : Cus) (Sv Op : Mv) (h' : List AObj) (h34 : call 36 [.d (.slc (x.val.map Val.enc)), .mp 2] [.map (ZhC Sv), .map (ZhC Op), .map []] = some (.d (.tup []), h')) :
    evQ C call (ann 43) 0 ZtP ⟨b25 raw D i x ++ [(12, .val (.mp 2))], [], H25 Sv Op ++ [.map []]⟩ = some (.norm ⟨b25 raw D i x ++ [(12, .val (.mp 2))], [], h'⟩) := by
  unfold ZtP Zh6 Zhy Zgq U25 T25 S25 B25 Zac Tryz.f43 b25 F25 E25 x25 H25
  simp only [Option.getD_some, sq1, sq2, inn]
  simp [-getElem?_pos, A43, Zai, Zob, ZzT, ZyK, Zh4, AV.toD, h34]
theorem ZzR {call : Zaa} (raw : List Cus) (D : Bm) (i : Nat) (x : Cus) (u : SV) (h : List AObj) : evQ C call (ann 43) 0 Zue ⟨b25 raw D i x ++ [(12, u)], [], h⟩ = some (.norm ⟨b25 raw D i x ++ [(12, u), (13, .val (.d (.bool false)))], [], h⟩) := by
  unfold Zue Zh6 Zhy Zgq U25 T25 S25 B25 Zac Tryz.f43 b25 F25 E25 x25
  simp only [Option.getD_some, sq1, sq2, inn]
  simp [-getElem?_pos, A43, Zai]
def c25 (raw : List Cus) (D : Bm) (i : Nat) (x : Cus) (b : Bool) : List (Nat × SV) := b25 raw D i x ++ [(12, .val (.d (.fmap (ZfI (Zef [] x.val))))), (13, .val (.d (.bool b)))]
theorem YdK : (Go.Abs.ops ZiJ).toList = (opsL ZiJ).take 1 ++ [opZ (opsL ZiJ)] := by kernel_rfl
theorem o25_17 : (opZ (opsL ZiJ)).op = .range 62 (.tmp 59) ∧ (opZ (opsL ZiJ)).guard = none ∧ (opZ (opsL ZiJ)).dst = some 60 := by
  refine ⟨?_, ?_, ?_⟩ <;> kernel_rfl
theorem Yat {call : Zaa} {all : List Oper} (raw : List Cus) (D : Bm) (i : Nat) (x : Cus) (b : Bool) (h : List AObj) : Zai C call (ann 43) all ((opsL ZiJ).take 1) ⟨c25 raw D i x b, [], h⟩ = some ⟨c25 raw D i x b, [(59, .a (.d (.fmap (ZfI (Zef [] x.val)))))], h⟩ := by
  unfold opsL Go.Abs.ops ZiJ G25 Zh6 Zhy Zgq U25 T25 S25 B25 Zac Tryz.f43 c25 b25 F25 E25 x25
  simp only [Option.getD_some, sq1, sq2, inn]
  simp [-getElem?_pos, A43, Zai]
theorem YdC : (Go.Abs.ops Zi1).toList = op0 (opsL Zi1) :: (opsL Zi1).drop 1 := by kernel_rfl
theorem o25_18 : (op0 (opsL Zi1)).op = .next (.tmp 60) false ∧ (op0 (opsL Zi1)).guard = none ∧ (op0 (opsL Zi1)).dst = some 61 := by
  refine ⟨?_, ?_, ?_⟩ <;> kernel_rfl
theorem YdS : (Go.Abs.ops ZiH).toList = op0 (opsL ZiH) :: (opsL ZiH).drop 1 := by kernel_rfl
theorem o25_19 : (op0 (opsL ZiH)).op = .entry (.tmp 60) ∧ (op0 (opsL ZiH)).guard = none ∧ (op0 (opsL ZiH)).dst = some 63 := by
  refine ⟨?_, ?_, ?_⟩ <;> kernel_rfl
def g25 (raw : List Cus) (D : Bm) (i : Nat) (x : Cus) (b : Bool) (p : Value) : List (Nat × SV) := c25 raw D i x b ++ [(60, .val (.raw p))]
theorem Ztm {call : Zaa} {all : List Oper} (raw : List Cus) (D : Bm) (i : Nat) (x : Cus) (bb : Bool) (p : Value) (h : List AObj) (b : Bool) (vs : List DV) :
    Zai C call (ann 43) all ((opsL Zi1).drop 1) ⟨g25 raw D i x bb p, [(61, .a (.d (.tup (.bool b :: vs))))], h⟩ = some ⟨g25 raw D i x bb p ++ [(62, .val (.d (.bool b)))], [(61, .a (.d (.tup (.bool b :: vs))))], h⟩ := by
  unfold opsL Go.Abs.ops Zi1 ZwX G25 Zh6 Zhy Zgq U25 T25 S25 B25 Zac Tryz.f43 g25 c25 b25 F25 E25 x25
  simp only [Option.getD_some, sq1, sq2, inn]
  simp [-getElem?_pos, A43, Zai]
theorem Zzn {call : Zaa} {all : List Oper} (raw : List Cus) (D : Bm) (i : Nat) (x : Cus) (bb : Bool) (p : Value) (h : List AObj) (k v : DV) :
    Zai C call (ann 43) all ((opsL ZiH).drop 1) ⟨g25 raw D i x bb p ++ [(62, .val (.d (.bool true)))], [(63, .a (.d (.tup [k, v])))], h⟩ = some ⟨g25 raw D i x bb p ++ [(62, .val (.d (.bool true))), (14, .val (.d k))], [(64, .a (.d k)), (63, .a (.d (.tup [k, v])))], h⟩ := by
  unfold opsL Go.Abs.ops ZiH Zzy ZwX G25 Zh6 Zhy Zgq U25 T25 S25 B25 Zac Tryz.f43 g25 c25 b25 F25 E25 x25
  simp only [Option.getD_some, sq1, sq2, inn]
  simp [-getElem?_pos, A43, Zai]
theorem Yaz {call : Zaa} (raw : List Cus) (D : Bm) (i : Nat) (x : Cus) (bb : Bool) (p : Value) (Sv Op : Mv) (nm : List UInt8) :
    evQ C call (ann 43) 0 ZsJ ⟨g25 raw D i x bb p ++ [(62, .val (.d (.bool true))), (14, .val (.d (.str nm)))], [], H25 Sv Op⟩ =
      some (.norm ⟨g25 raw D i x (bb || (ZaV BEq.beq nm Op).isSome) p ++ [(62, .val (.d (.bool true))), (14, .val (.d (.str nm))), (16, .val (.d (.bool (ZaV BEq.beq nm Op).isSome))), (71, .val (.d (.bool (ZaV BEq.beq nm Op).isSome)))], [], H25 Sv Op⟩) := by
  unfold ZsJ Zzy ZwX G25 Zh6 Zhy Zgq U25 T25 S25 B25 Zac Tryz.f43 g25 c25 b25 F25 E25 x25 H25
  simp only [Option.getD_some, sq1, sq2, inn]
  cases hO : ZaV BEq.beq nm Op with
  | none => simp [-getElem?_pos, A43, Zai, Zbn, z70, k70, ZdH, hO, Zc1, Zeb, mapO, AV.toD]
  | some u => simp [-getElem?_pos, A43, Zai, Zbn, z70, k70, ZdH, hO, Zc1, Zeb, mapO, AV.toD]
theorem Ztf {call : Zaa} (raw : List Cus) (D : Bm) (i : Nat) (x : Cus) (h : List AObj) : evQ C call (ann 43) 0 Zrm ⟨c25 raw D i x false, [], h⟩ = some (.norm ⟨c25 raw D i x false ++ [(72, .val (.d (.bool false)))], [], h⟩) ∧
    evQ C call (ann 43) 0 Zrm ⟨c25 raw D i x true, [], h⟩ = some (.exit 3 ⟨c25 raw D i x true ++ [(72, .val (.d (.bool true)))], [], h⟩) := by
  unfold Zrm ZxM Zh6 Zhy Zgq U25 T25 S25 B25 Zac Tryz.f43 c25 b25 F25 E25 x25
  simp only [Option.getD_some, sq1, sq2, inn]
  constructor <;> simp [-getElem?_pos, A43, Zai]
theorem ZzG {call : Zaa} (raw : List Cus) (D : Bm) (i : Nat) (x : Cus) (Sv Op : Mv) (hO : (Op.map Prod.fst).Nodup) : evQ C call (ann 43) 0 ZsR ⟨c25 raw D i x false ++ [(72, .val (.d (.bool false)))], [], H25 Sv Op⟩ = some (.norm ⟨c25 raw D i x false ++ [(72, .val (.d (.bool false)))], [], H25 Sv (rmv x.name Op)⟩) := by
  unfold ZsR Yal ZxM Zh6 Zhy Zgq U25 T25 S25 B25 Zac Tryz.f43 c25 b25 F25 E25 x25 H25
  simp only [Option.getD_some, sq1, sq2, inn]
  simp [-getElem?_pos, A43, Zai, ZjZ, hz9, ag9, Zho, z70, k70, Zml _ Op hO]
def Ydm (Sv : Mv) : List (DV × DV) := Sv.map fun p => (.str p.1, .slc (p.2.map Val.enc))
end
theorem Zud {α β γ : Type} {f : β → Option γ} {g : α → β} {k : α → γ} (h : ∀ x, f (g x) = some (k x)) : ∀ l : List α, mapO f (l.map g) = some (l.map k)
  | [] => rfl
  | x :: r => by
    have ih := Zud h r
    rw [List.map_cons, List.map_cons]
    simp only [mapO, h, ih]
theorem Yfg (d : DV) : (AV.d d).toD = some d := by simp [AV.toD]
theorem Zxn (Sv : Mv) : mapO (fun e : DV × AV => e.2.toD.map fun v => (e.1, v)) (ZhC Sv) = some (Ydm Sv) :=
  Zud (fun p => by show (AV.d _).toD.map _ = _; rw [Yfg]; rfl) Sv
theorem Ydz (v : List Val) : DV.noMapL (v.map Val.enc) = true := by
  have := ok.noMap 22 v rfl
  exact this
end Go.Tev.S1
namespace Go.Tev.S1
open Go.Abs Go.Proofs
def d25 (raw : List Cus) (D : Bm) (i : Nat) (x : Cus) : List (Nat × SV) := c25 raw D i x false ++ [(72, .val (.d (.bool false)))]
theorem Zwv (Sv Op : Mv) (u : DV) : ZdK [.map (ZhC Sv), .map (ZhC Op)] [.d u, .mp 0] = some ([u, .fmap (Ydm Sv)], 1) := by
  have h : Zp4 [.map (ZhC Sv), .map (ZhC Op)] (.mp 0) = some (.fmap (Ydm Sv), 1) := by
    show (mapO (fun e : DV × AV => e.2.toD.map fun v => (e.1, v)) (ZhC Sv)).map (fun l => (DV.fmap l, 1)) = _
    rw [Zxn]; rfl
  simp only [ZdK, h]
  rfl
theorem ZsF (v : List Val) (e : Int) : Zpv 1 (.tup [.slc (v.map Val.enc), .int .i64 e]) = true := by
  simp only [Zpv, DV.noMap, DV.noMapL, Ydz, Bool.and_self]
section
attribute [local simp] List.getElem?_cons_zero Option.bind_some Zvm Zd4 Zcj Zbd ZfC ZdL Zcx ZjI ZfE ZdG Zfm Zfv Zjh Zfx Zb6 Zbt ZiO ZaS ZaZ ZjM ZaW Zcq Zdh ZdR Zca has opx opd opA opD XV.flat XV.copy oD oA Zad ins ZlS ZfU St.put St.putOwn St.lose St.loseEnv unal ZjC ZjK Zpi dUn Zgv Zay ZbV Zbc Za8 ZaN Zcc ZbA ZbZ ZhU Zbs AV.cells AV.cellOk AV.single DV.cellOk Zuw Zvx Zu2 DV.cells ZaK ZeU ZaG ZbW ZaH ZaX Zj5 ZaU Zeb mapO AV.toD ZaB ZbR Zd5 optD Zb2 Za5 Zfl Zao ZbQ ZbH ZaF ZdB Zc1 Zbi St.trim Out.st
theorem ZzM {call : Zaa} (raw : List Cus) (D : Bm) (i : Nat) (x : Cus) (Sv Op : Mv) (v : List Val) (e n : Int) (hS : x.name ∉ Sv.map Prod.fst)
    (h39 : Zb8 call false 34 [.slc (x.val.map Val.enc), .fmap (Ydm Sv)] = some (.tup [.slc (v.map Val.enc), .int .i64 e])) (h30 : e = 0 → Zb8 call true 44 [.slc (v.map Val.enc)] = some (.int .i64 n)) :
    evQ C call (ann 43) 0 Ztu ⟨d25 raw D i x, [], H25 Sv Op⟩ = some (.norm ⟨d25 raw D i x ++ [(17, .val (.d (.slc (v.map Val.enc)))), (18, .val (.d (.int .i64 e))), (89, .val (.d (.bool (decide (e = 0) && decide (n ≤ 2000)))))], [], H25 (bif decide (e = 0) && decide (n ≤ 2000) then Sv ++ [(x.name, v)] else Sv) Op⟩) := by
  unfold Ztu Yal ZxM Zh6 Zhy Zgq U25 T25 S25 B25 Zac Tryz.f43 d25 c25 b25 F25 E25 x25 H25
  simp only [Option.getD_some, sq1, sq2, inn]
  by_cases he : e = 0
  · subst he
    have h30 := h30 rfl
    by_cases hn : n ≤ 2000
    · simp [-getElem?_pos, A43, Zai, ZjZ, Zob, hz9, ZzT, ag9, ZyK, z70, k70, Zwv, h39, h30, ZsF, hn, ZgU _ _ Sv hS]
    · simp [-getElem?_pos, A43, Zai, ZjZ, Zob, hz9, ZzT, ag9, ZyK, z70, k70, Zwv, h39, h30, ZsF, hn, ZgU _ _ Sv hS]
  · have he2 : (e == 0) = false := by simpa using he
    simp [-getElem?_pos, A43, Zai, ZjZ, Zob, hz9, ZzT, ag9, ZyK, z70, k70, Zwv, h39, ZsF, he, he2, ZgU _ _ Sv hS]
theorem Zys {call : Zaa} (raw : List Cus) (D : Bm) (h : List AObj) : evQ C call (ann 43) 0 Zt6 ⟨E25 raw D, [], h⟩ = some (.norm ⟨E25 raw D ++ [(19, .own [])], [], h⟩) := by
  unfold Zt6 T25 S25 B25 Zac Tryz.f43 E25
  simp only [Option.getD_some, sq1, sq2, inn]
  simp [-getElem?_pos, A43, Zai]
def n25 (raw : List Cus) (D : Bm) (es : List Cus) (i : Nat) : List (Nat × SV) := E25 raw D ++ [(19, .own (es.map Cus.enc)), (95, .val (.d (d44 raw))), (96, .val (.d (.int .i64 raw.length))), (97, .val (.d (.int .i64 i)))]
theorem Zzh {call : Zaa} (raw : List Cus) (D : Bm) (h : List AObj) : evQ C call (ann 43) 0 ZpS ⟨E25 raw D ++ [(19, .own [])], [], h⟩ = some (.norm ⟨n25 raw D [] 0, [], h⟩) := by
  unfold ZpS N25 T25 S25 B25 Zac Tryz.f43 n25 E25 d44
  simp only [Option.getD_some, sq1, sq2, inn]
  simp [-getElem?_pos, A43, Zai, ZuJ]
theorem Yai {call : Zaa} (raw : List Cus) (D : Bm) (es : List Cus) (h : List AObj) : evQ C call (ann 43) 0 ZoT ⟨n25 raw D es raw.length, [], h⟩ = some (.exit 6 ⟨n25 raw D es raw.length ++ [(98, .val (.d (.bool false)))], [], h⟩) := by
  unfold ZoT N25 T25 S25 B25 Zac Tryz.f43 n25 E25
  simp only [Option.getD_some, sq1, sq2, inn]
  simp [-getElem?_pos, A43, Zai]
theorem ZyD {call : Zaa} (raw : List Cus) (D : Bm) (es : List Cus) (i : Nat) (h : List AObj) : ∃ s, evQ C call (ann 43) 0 Ztw ⟨n25 raw D es i, [], h⟩ = some (.norm s) ∧ Zcj C s Tryz.f43.results.toList = some [.d (.slc (es.map Cus.enc))] := by
  have hr : Tryz.f43.results.toList = [.tmp 2] := rfl
  rw [hr]
  unfold Ztw T25 S25 B25 Zac Tryz.f43 n25 E25
  simp only [Option.getD_some, sq1, sq2, inn]
  simp [-getElem?_pos, A43, Zai]
theorem pl53 : C.places 39 = some (fun i => [(0, 1), (1, 1)][i]?) := by kernel_rfl
theorem hz22 : C.hasZero 23 = true := by kernel_rfl
theorem el22 : C.elemOk 23 2 = true := by kernel_rfl
theorem eb22 : ∃ b, C.elemBytes 23 = some b ∧ b ≤ 100 := ⟨40, by kernel_rfl, by decide⟩
end
theorem rm22 {n : Nat} (h : n ≤ 2 ^ 40) : Zb9 C 23 n = true := by
  obtain ⟨b, hb, hl⟩ := eb22
  simp only [Zb9, hb, Bool.and_eq_true, Nat.ble_eq]
  have : n * b ≤ 2 ^ 40 * 100 := Nat.mul_le_mul h hl
  exact ⟨by omega, by omega⟩
theorem cs53 (es : List Cus) : ZaF 2 ((es.map Cus.enc).take 1) = true := by
  cases es with
  | nil => rfl
  | cons x es => rfl
section
attribute [local simp] List.getElem?_cons_zero Option.bind_some Zvm Zd4 Zcj Zbd ZfC ZdL Zcx ZjI ZfE ZdG Zfm Zfv Zjh Zfx Zb6 Zbt ZiO ZaS ZaZ ZjM ZaW Zcq Zdh ZdR Zca has opx opd opA opD XV.flat XV.copy oD oA Zad ins ZlS ZfU St.put St.putOwn St.lose St.loseEnv unal ZjC ZjK Zpi dUn Zgv Zay ZbV Zbc Za8 ZaN Zcc ZbA ZbZ ZhU Zbs AV.cells AV.cellOk AV.single DV.cellOk Zuw Zvx Zu2 DV.cells ZaK ZeU ZaG ZbW ZaH ZaX Zj5 ZaU Zeb mapO AV.toD ZaB ZbR Zd5 optD Zb2 Za5 Zfl Zao ZbQ ZbH ZaF ZdB Zc1 Zbi St.trim Out.st
theorem Zyk {call : Zaa} (raw : List Cus) (D : Bm) (es : List Cus) (i : Nat) (x : Cus) (hx : raw[i]? = some x) (hl : raw.length < 2 ^ 40) (Sv Op : Mv) (hS : ZaV BEq.beq x.name Sv = none) :
    evQ C call (ann 43) 0 ZoT ⟨n25 raw D es i, [], H25 Sv Op⟩ = some (.norm ⟨n25 raw D es (i + 1) ++ [(98, .val (.d (.bool true)))], [], H25 Sv Op⟩) := by
  have hlt : i < raw.length := (List.getElem?_eq_some_iff.1 hx).1
  have hw : IntKind.i64.wrap ((i : Int) + 1) = (i : Int) + 1 := Za7 (by omega)
  have hg := ZlJ hx
  have hi := YbA hlt
  unfold ZoT N25 T25 S25 B25 Zac Tryz.f43 n25 E25 H25 d44
  simp only [Option.getD_some, sq1, sq2, inn]
  simp [-getElem?_pos, A43, Zai, ZuJ, hlt, hw, hg, hi, Ydo, Ydl, Ydp, ZjZ, Zob, hz9, ZzT, ag9, ZyK, Zbn, z70, k70, ZdH, hS, -List.getElem?_map]
theorem Zy6 {call : Zaa} (raw : List Cus) (D : Bm) (es : List Cus) (i : Nat) (x : Cus) (hx : raw[i]? = some x) (hl : raw.length < 2 ^ 40) (he : es.length ≤ i) (Sv Op : Mv) {v : List Val} (hS : ZaV BEq.beq x.name Sv = some v) :
    evQ C call (ann 43) 0 ZoT ⟨n25 raw D es i, [], H25 Sv Op⟩ = some (.norm ⟨n25 raw D (es ++ [⟨x.name, v⟩]) (i + 1) ++ [(98, .val (.d (.bool true)))], [], H25 Sv Op⟩) := by
  have hlt : i < raw.length := (List.getElem?_eq_some_iff.1 hx).1
  have hw : IntKind.i64.wrap ((i : Int) + 1) = (i : Int) + 1 := Za7 (by omega)
  have hg := ZlJ hx
  have hi := YbA hlt
  have hrm : Zb9 C 23 (es.length + 1) = true := rm22 (by omega)
  unfold ZoT N25 T25 S25 B25 Zac Tryz.f43 n25 E25 H25 d44
  simp only [Option.getD_some, sq1, sq2, inn]
  simp [-getElem?_pos, A43, Zai, ZuJ, hlt, hw, hg, hi, Ydo, Ydl, Ydp, ZjZ, Zob, hz9, ZzT, ag9, ZyK, Zbn, z70, k70, ZdH, hS, pl53, hz22, el22, cs53, hrm, -List.getElem?_map]
  rfl
end
end Go.Tev.S1
namespace Go.Abs
section
variable {C : Ctx} {call : Zaa} {fa : FA} {st s1 s2 s3 : St} {x y z : Code} {Q : Out → Prop}
theorem Zqh (hn : Za0 C.P) (hm : C.P.follows .mixedOrders = true) (hK : ZaY C.P call) {n k1 k2 : Nat} (okx : okC fa x = true) (oky : okC fa y = true) (hx : evQ C call fa k1 x st = some (.norm s1)) (hy : evQ C call fa k2 y s1 = some (.norm s2))
    (hs : Sheds n s2 s3) (hl : st.heap.length ≤ n) (h : Tri C fa z s3 Q) : Tri C fa (.seq x (.seq y z)) st Q := by
  intro own a w S
  refine wp_seq (wp_mono (ZgT hn hm hK k1 x st _ own a w (Zha k1 x st _ okx hx) S) ?_)
  rintro e a1 w1 ⟨he, own1, S1, F1, E1⟩
  subst he
  refine wp_seq (wp_mono (ZgT hn hm hK k2 y s1 _ own1 a1 w1 (Zha k2 y s1 _ oky hy) S1) ?_)
  rintro e a2 w2 ⟨he, own2, S2, F2, E2⟩
  subst he
  have F := (F1.trans F2).shed (n := n)
  have E := (E1.trans E2).shed hs hl
  exact wp_mono (h _ a2 w2 (S2.shed hs)) fun e a3 w3 ⟨o, k1, k2⟩ => ⟨o, k1, k2.after F E⟩
end
end Go.Abs
namespace Go.Tev.S1
open Go.Abs Go.Proofs
def Zco (Op : Mv) (x : Cus) : Bool := (ZaV BEq.beq x.name Op).isSome && !((Zef [] x.val).any fun p => (ZaV BEq.beq p.1 Op).isSome)
def Zvc (Sv : Mv) (x : Cus) : Mv := bif decide ((Zd7 (lkM Sv) x.val).2 = 0) && decide ((Zak (Zd7 (lkM Sv) x.val).1 : Int) ≤ 2000) then Sv ++ [(x.name, (Zd7 (lkM Sv) x.val).1)] else Sv
def ZhL (raw : List Cus) : Nat → Mv → Mv → Mv
  | 0, Sv, _ => Sv
  | n + 1, Sv, Op => match raw.find? (Zco Op) with
    | some x => ZhL raw n (Zvc Sv x) (rmv x.name Op)
    | none => Sv
def OkS (Sv : Mv) : Prop := ∀ p ∈ Sv, Zak p.2 ≤ 2000 ∧ Zbx p.2 = false
theorem ZxQ {Sv : Mv} (h : OkS Sv) : YdE (lkM Sv) := by
  intro n x hx
  have hV : V = 2 ^ 24 := rfl
  have : ∀ M : Mv, ZaV BEq.beq n M = some x → ∃ k, (k, x) ∈ M := by
    intro M
    induction M with
    | nil => intro h; simp [ZaV] at h
    | cons p M ih =>
      obtain ⟨k, u⟩ := p
      intro h
      simp only [ZaV] at h
      cases e : (n == k) with
      | true => rw [e] at h; cases h; exact ⟨k, List.mem_cons_self⟩
      | false => rw [e] at h; obtain ⟨k', hk⟩ := ih h; exact ⟨k', List.mem_cons_of_mem _ hk⟩
  obtain ⟨k, hk⟩ := this Sv hx
  obtain ⟨h1, h2⟩ := h _ hk
  exact ⟨Nat.le_trans h1 (by rw [hV]; decide), h2⟩
theorem Zpw {Sv : Mv} (hS : OkS Sv) {l : List Val} (hl : Zak l ≤ B) : Zb8 (Zab C K0) false 34 [.slc (l.map Val.enc), .fmap (Ydm Sv)] = some (.tup [.slc ((Zd7 (lkM Sv) l).1.map Val.enc), .int .i64 (Zd7 (lkM Sv) l).2]) := by
  have hV : V = 2 ^ 24 := rfl
  obtain ⟨d, h1, h2⟩ := Zq4 Zjy [.l 51 l, .m 9 22 Sv] (l, Sv) (Zd7 (lkM Sv) l) [.slc (l.map Val.enc), .fmap (Ydm Sv)] _ rfl rfl (ZlT ⟨hl, ZxQ hS⟩ fun p hp => Nat.le_trans (hS p hp).1 (by rw [hV]; decide)) rfl
  cases h1
  exact h2
theorem Zxf {Sv : Mv} (hS : OkS Sv) {l : List Val} (hl : Zak l ≤ B) (h0 : (Zd7 (lkM Sv) l).2 = 0) : Zak (Zd7 (lkM Sv) l).1 ≤ B := by
  unfold Zd7 at h0 ⊢
  split
  · simp [Zak]
  · rename_i n hn
    split
    · simp [Zak]
    · rename_i h2
      split
      · exact (ZwK ⟨hl, ZxQ hS⟩ hn h2).2
      · simp [Zak]
theorem Zsy {l : List Val} (hl : Zak l ≤ B) : Zb8 (Zab C K0) true 44 [.slc (l.map Val.enc)] = some (.int .i64 (Zak l)) := by
  obtain ⟨d, h1, h2⟩ := Zs4 Zjy [.l 51 l] l _ [.slc (l.map Val.enc)] _ rfl rfl (ZiG hl) rfl
  cases h1
  exact ZgP h2
theorem YbR {lk : Lk} (h : YdE lk) : ∀ l, Zbx (Zeg lk l) = false := by
  refine Zhb _ ?_ ?_
  · rw [Ze5]; rfl
  · intro v r h1 h2 h3
    rw [Zea, ZpX, h1, Bool.or_false]
    unfold ZuT
    split
    · split
      · rename_i x hx; exact (h _ _ hx).2
      · exact h3
    · rename_i hv
      rw [Bool.not_eq_true] at hv
      rw [Zbx, Val.hasv_eq]
      have e1 : (Val.mk v.tok (Zeg lk v.l)).ref = v.ref := rfl
      have e2 : (Val.mk v.tok (Zeg lk v.l)).l = Zeg lk v.l := rfl
      rw [e1, e2, hv, h2]
      rfl
theorem ZyQ {Sv : Mv} (hS : OkS Sv) (l : List Val) : Zbx (Zd7 (lkM Sv) l).1 = false := by
  unfold Zd7
  split
  · rfl
  · split
    · rfl
    · split
      · exact YbR (ZxQ hS) l
      · rfl
theorem Zx0 {Sv : Mv} (hS : OkS Sv) (x : Cus) : OkS (Zvc Sv x) := by
  unfold Zvc
  cases h : decide ((Zd7 (lkM Sv) x.val).2 = 0) && decide ((Zak (Zd7 (lkM Sv) x.val).1 : Int) ≤ 2000) with
  | false => exact hS
  | true =>
    rw [Bool.and_eq_true, decide_eq_true_eq, decide_eq_true_eq] at h
    intro p hp
    rw [cond_true] at hp
    rcases List.mem_append.1 hp with hp | hp
    · exact hS p hp
    · rw [List.mem_singleton] at hp
      subst hp
      exact ⟨Int.ofNat_le.1 h.2, ZyQ hS _⟩
theorem Zna (Sv : Mv) (x : Cus) : ∀ a ∈ (Zvc Sv x).map Prod.fst, a ∈ Sv.map Prod.fst ∨ a = x.name := by
  intro a ha
  unfold Zvc at ha
  cases h : decide ((Zd7 (lkM Sv) x.val).2 = 0) && decide ((Zak (Zd7 (lkM Sv) x.val).1 : Int) ≤ 2000) with
  | false => rw [h] at ha; exact .inl ha
  | true =>
    rw [h, cond_true, List.map_append] at ha
    rcases List.mem_append.1 ha with h | h
    · exact .inl h
    · exact .inr (by simpa using h)
theorem rmv_names {a : List UInt8} {M : Mv} {b : List UInt8} : b ∈ (rmv a M).map Prod.fst ↔ b ∈ M.map Prod.fst ∧ b ≠ a := by
  simp only [rmv, List.mem_map, List.mem_filter]
  constructor
  · rintro ⟨p, ⟨h1, h2⟩, rfl⟩
    exact ⟨⟨p, h1, rfl⟩, fun e => by simp [e] at h2⟩
  · rintro ⟨⟨p, h1, rfl⟩, h2⟩
    exact ⟨p, ⟨h1, by simpa using fun e => h2 e.symm⟩, rfl⟩
theorem Zw6 {a : List UInt8} {M : Mv} (h : (M.map Prod.fst).Nodup) : ((rmv a M).map Prod.fst).Nodup := (List.Sublist.map _ List.filter_sublist).nodup h
theorem YaL {a : List UInt8} {M : Mv} (h : a ∈ M.map Prod.fst) : (rmv a M).length < M.length := by
  obtain ⟨p, hp, rfl⟩ := List.mem_map.1 h
  have : ∀ M : Mv, p ∈ M → (rmv p.1 M).length < M.length := by
    intro M
    induction M with
    | nil => intro h; simp at h
    | cons q M ih =>
      intro hp
      have hle : (rmv p.1 M).length ≤ M.length := List.length_filter_le _ _
      simp only [rmv, List.filter_cons] at ih hle ⊢
      rcases List.mem_cons.1 hp with rfl | hp
      · simp only [beq_self_eq_true, Bool.not_true, Bool.false_eq_true, if_false, List.length_cons]; omega
      · have := ih hp
        split <;> simp only [List.length_cons] <;> omega
  exact this M hp
end Go.Tev.S1
namespace Go.Tev.S1
open Go.Abs Go.Proofs
open Classical in
noncomputable def ZjT (raw : List Cus) : Mv := (Znx raw).filter fun q => decide ((q.1, true) ∉ Zbb raw)
def ZlO (raw : List Cus) (D : Bm) (vis : List Nat) : Mv := (Znx raw).filter fun q => decide (∀ j ∈ vis, D[j]? ≠ some (q.1, true))
theorem ZvA (raw : List Cus) (D : Bm) (vis : List Nat) (j : Nat) (a : List UInt8) (b : Bool) (hj : D[j]? = some (a, b)) : ZlO raw D (j :: vis) = (bif b then rmv a (ZlO raw D vis) else ZlO raw D vis) := by
  cases b with
  | false =>
    simp only [cond_false, ZlO]
    refine List.filter_congr fun q _ => ?_
    simp only [List.mem_cons, forall_eq_or_imp, hj, decide_eq_decide]
    constructor
    · exact fun h => h.2
    · exact fun h => ⟨by simp, h⟩
  | true =>
    simp only [cond_true, ZlO, rmv, List.filter_filter]
    refine List.filter_congr fun q _ => ?_
    rw [Bool.eq_iff_iff]
    simp only [List.mem_cons, forall_eq_or_imp, hj, decide_eq_true_eq, Bool.and_eq_true, Bool.not_eq_true', beq_eq_false_iff_ne, ne_eq, Option.some.injEq, Prod.mk.injEq, and_true]
theorem ZxV (raw : List Cus) (vis : List Nat) (h : ∀ j, j < (Zbb raw).length → j ∈ vis) : ZlO raw (Zbb raw) vis = ZjT raw := by
  unfold ZlO ZjT
  refine List.filter_congr fun q _ => ?_
  rw [Bool.eq_iff_iff]
  simp only [decide_eq_true_eq]
  constructor
  · intro h1 hm
    obtain ⟨j, hj, he⟩ := List.mem_iff_getElem.1 hm
    exact h1 j (h j hj) (by rw [List.getElem?_eq_getElem hj, he])
  · intro h1 j _ he
    exact h1 (List.mem_of_getElem? he)
theorem Zsb (raw : List Cus) (hn : (raw.map Cus.name).Nodup) (D : Bm) (vis : List Nat) : ((ZlO raw D vis).map Prod.fst).Nodup := by
  have : ((Znx raw).map Prod.fst).Nodup := by rw [Zjr]; exact hn
  exact (List.Sublist.map _ List.filter_sublist).nodup this
theorem Yaq (raw : List Cus) (hn : (raw.map Cus.name).Nodup) : Tri C (C.ann 43) YaP ⟨E25 raw (Zbb raw), [], H25 [] (Znx raw)⟩ (Yc8 (E25 raw (Zbb raw)) (H25 [] (ZjT raw))) := by
  obtain ⟨_, _, k7, _, _, _, _, _, _⟩ := Ztg
  refine ZeM (call := Zab C K0) Zae Zah YeJ (YbY raw (Zbb raw) _) o25_4.2.1 o25_4.1 o25_4.2.2 (by kernel_rfl) (by kernel_rfl) (show opA _ (.tmp 29) = some (.d (.fmap (ZfI (Zbb raw)))) from rfl) Yez fun p => ?_
  show YdY C (C.ann 43) 30 p (ZfI (Zbb raw)) _ ⟨ZvE raw (Zbb raw) p, [], H25 [] (Znx raw)⟩ _
  refine ZlV (call := Zab C K0) Zae Zah Ye3 o25_5.2.1 o25_5.1 o25_5.2.2 (by kernel_rfl) (by kernel_rfl) YeM o25_6.2.1 o25_6.1 o25_6.2.2 (by kernel_rfl) (by kernel_rfl)
    (fun vis s => s = ⟨ZvE raw (Zbb raw) p, [], H25 [] (ZlO raw (Zbb raw) vis)⟩) ?_ (fun vis s hs => by subst hs; exact ⟨rfl, rfl⟩) ?_ ?_
  · have : ZlO raw (Zbb raw) [] = Znx raw := by
      unfold ZlO
      rw [List.filter_eq_self]
      intro q _
      simp
    rw [this]
  · rintro vis s rfl hall
    refine ⟨_, ZxF raw _ p _ false [], rfl, ?_⟩
    refine ⟨_, rfl, ?_⟩
    rw [ZxV raw vis (fun j hj => hall j (by simpa [ZfI] using hj))]
    refine sub_list (s := ⟨ZvE raw (Zbb raw) p ++ [(32, .val (.d (.bool false)))], [], H25 [] (ZjT raw)⟩) fun q hq => ?_
    simp only [E25, List.mem_cons, List.not_mem_nil, or_false] at hq
    rcases hq with rfl | rfl | rfl | rfl | rfl <;> exact ⟨rfl, rfl⟩
  · rintro vis s j k v rfl hj hjv
    rw [ZfI, List.getElem?_map] at hj
    cases huj : (Zbb raw)[j]? with
    | none => rw [huj] at hj; cases hj
    | some q =>
      obtain ⟨a, b⟩ := q
      rw [huj] at hj
      cases hj
      refine ⟨_, _, ZxF raw _ p _ true [.str a, .bool b], rfl, rfl, Ya7 raw _ p _ (.str a) (.bool b), ?_⟩
      refine ZcD (call := Zab C K0) Zae mixed Zah k7 (Yb0 raw _ p [] _ (Zsb raw hn _ vis) a b) ?_
      simp only [Za1]
      refine ⟨_, rfl, ?_⟩
      rw [ZvA raw _ vis j a b huj]
      refine ⟨fun kk vv hv => ?_, rfl, rfl⟩
      simp only [St.trim]
      rw [alook_trimE _ _ _ (by rw [ZaR hv]; rfl)]
      exact ZaR hv
def Zyh (u : Bm) (Op : Mv) (vis : List Nat) : Bool := decide (∃ j ∈ vis, ∃ q, u[j]? = some q ∧ (ZaV BEq.beq q.1 Op).isSome = true)
end Go.Tev.S1
namespace Go.Tev.S1
open Go.Abs Go.Proofs
def Ycc (u : Bm) (Op : Mv) : Bool := u.any fun p => (ZaV BEq.beq p.1 Op).isSome
theorem ZzB (raw : List Cus) (D : Bm) (i : Nat) (x : Cus) (Sv Op : Mv) : Tri C (C.ann 43) YaK ⟨c25 raw D i x false, [], H25 Sv Op⟩ (Yc8 (c25 raw D i x (Ycc (Zef [] x.val) Op)) (H25 Sv Op)) := by
  obtain ⟨_, k20, _, _, _, _, _, _, _, _⟩ := Zp7
  refine ZeM (call := Zab C K0) Zae Zah YdK (Yat raw D i x false _) o25_17.2.1 o25_17.1 o25_17.2.2 (by kernel_rfl) (by kernel_rfl) (show opA _ (.tmp 59) = some (.d (.fmap (ZfI (Zef [] x.val)))) from rfl) Yez fun p => ?_
  show YdY C (C.ann 43) 60 p (ZfI (Zef [] x.val)) _ ⟨g25 raw D i x false p, [], H25 Sv Op⟩ _
  refine ZlV (call := Zab C K0) Zae Zah YdC o25_18.2.1 o25_18.1 o25_18.2.2 (by kernel_rfl) (by kernel_rfl) YdS o25_19.2.1 o25_19.1 o25_19.2.2 (by kernel_rfl) (by kernel_rfl)
    (fun vis s => s = ⟨g25 raw D i x (Zyh (Zef [] x.val) Op vis) p, [], H25 Sv Op⟩) ?_ (fun vis s hs => by subst hs; exact ⟨rfl, rfl⟩) ?_ ?_
  · have : Zyh (Zef [] x.val) Op [] = false := by simp [Zyh]
    rw [this]
  · rintro vis s rfl hall
    refine ⟨_, Ztm raw D i x _ p _ false [], rfl, ?_⟩
    refine ⟨_, rfl, ?_⟩
    have : Zyh (Zef [] x.val) Op vis = Ycc (Zef [] x.val) Op := by
      rw [Bool.eq_iff_iff]
      unfold Zyh Ycc
      rw [decide_eq_true_eq, List.any_eq_true]
      constructor
      · rintro ⟨j, _, q, hq, h⟩; exact ⟨q, List.mem_of_getElem? hq, h⟩
      · rintro ⟨q, hq, h⟩
        obtain ⟨j, hj, rfl⟩ := List.mem_iff_getElem.1 hq
        exact ⟨j, hall j (by simpa [ZfI] using hj), _, List.getElem?_eq_getElem hj, h⟩
    rw [this]
    refine sub_list (s := ⟨g25 raw D i x (Ycc (Zef [] x.val) Op) p ++ [(62, .val (.d (.bool false)))], [], H25 Sv Op⟩) fun q hq => ?_
    simp only [c25, b25, F25, E25, x25, List.cons_append, List.nil_append, List.mem_cons, List.not_mem_nil, or_false] at hq
    rcases hq with rfl | rfl | rfl | rfl | rfl | rfl | rfl | rfl | rfl | rfl | rfl | rfl | rfl | rfl <;> exact ⟨rfl, rfl⟩
  · rintro vis s j k v rfl hj hjv
    rw [ZfI, List.getElem?_map] at hj
    cases huj : (Zef [] x.val)[j]? with
    | none => rw [huj] at hj; cases hj
    | some q =>
      obtain ⟨a, b⟩ := q
      rw [huj] at hj
      cases hj
      refine ⟨_, _, Ztm raw D i x _ p _ true [.str a, .bool b], rfl, rfl, Zzn raw D i x _ p _ (.str a) (.bool b), ?_⟩
      refine ZcD (call := Zab C K0) Zae mixed Zah k20 (Yaz raw D i x _ p Sv Op a) ?_
      simp only [Za1]
      refine ⟨_, rfl, ?_⟩
      have : Zyh (Zef [] x.val) Op (j :: vis) = (Zyh (Zef [] x.val) Op vis || (ZaV BEq.beq a Op).isSome) := by
        rw [Bool.eq_iff_iff]
        unfold Zyh
        simp only [List.mem_cons, Bool.or_eq_true, decide_eq_true_eq]
        constructor
        · rintro ⟨j', rfl | h1, q, hq, h⟩
          · rw [huj] at hq; cases hq; exact .inr h
          · exact .inl ⟨j', h1, q, hq, h⟩
        · rintro (⟨j', h1, q, hq, h⟩ | h)
          · exact ⟨j', .inr h1, q, hq, h⟩
          · exact ⟨j, .inl rfl, _, huj, h⟩
      rw [this]
      refine ⟨fun kk vv hv => ?_, rfl, rfl⟩
      simp only [St.trim]
      have hv2 : Zad (g25 raw D i x (Zyh (Zef [] x.val) Op vis || (ZaV BEq.beq a Op).isSome) p ++ [(62, .val (.d (.bool true)))]) kk = some vv := ZaR hv
      have hk : (Zad (g25 raw D i x (Zyh (Zef [] x.val) Op vis) p ++ [(62, .val (.d (.bool true)))]) kk).isSome = true := by
        have hm := sub_list.alook_mem0' hv2
        simp only [g25, c25, b25, F25, E25, x25, List.cons_append, List.nil_append, List.mem_cons, List.not_mem_nil, or_false, Prod.mk.injEq] at hm
        rcases hm with ⟨rfl, _⟩ | ⟨rfl, _⟩ | ⟨rfl, _⟩ | ⟨rfl, _⟩ | ⟨rfl, _⟩ | ⟨rfl, _⟩ | ⟨rfl, _⟩ | ⟨rfl, _⟩ | ⟨rfl, _⟩ | ⟨rfl, _⟩ | ⟨rfl, _⟩ | ⟨rfl, _⟩ | ⟨rfl, _⟩ | ⟨rfl, _⟩ | ⟨rfl, _⟩ | ⟨rfl, _⟩ <;> rfl
      rw [alook_trimE _ _ _ hk]
      exact ZaR hv
theorem YdD (raw : List Cus) (D : Bm) (i : Nat) (x : Cus) (Sv Op : Mv) (h' : List AObj) (g2 : h'[0]? = some (.map (ZhC Sv))) (g3 : h'[1]? = some (.map (ZhC Op))) (g4 : h'[2]? = some (.map ((ZfI (Zef [] x.val)).map fun p => (p.1, .d p.2)))) :
    Sheds 2 ⟨b25 raw D i x ++ [(12, .val (.mp 2))], [], h'⟩ ⟨b25 raw D i x ++ [(12, .val (.d (.fmap (ZfI (Zef [] x.val)))))], [], H25 Sv Op⟩ := by
  have hd : ∀ M : Mv, ShedO 2 h' (.map (ZhC M)) (.map (ZhC M)) := fun M => .map _ _ rfl fun j a b ha hb => by
    rw [ha] at hb
    cases hb
    obtain ⟨p, _, rfl⟩ := List.mem_map.1 (List.mem_of_getElem? ha)
    exact ⟨rfl, .d _⟩
  refine ⟨rfl, rfl, ?_, ?_⟩
  · intro id o2 ho
    rcases id with _ | _ | id
    · cases ho; exact ⟨_, g2, hd Sv⟩
    · cases ho; exact ⟨_, g3, hd Op⟩
    · simp [H25] at ho
  · intro k v2 hv
    have hm := sub_list.alook_mem0' hv
    have key : ∀ (k : Nat) (v2 v : SV), Zad (b25 raw D i x ++ [(12, SV.val (.mp 2))]) k = some v → ShedSV 2 h' v v2 → ∃ v, Zad (b25 raw D i x ++ [(12, SV.val (.mp 2))]) k = some v ∧ ShedSV 2 h' v v2 := fun k v2 v h1 h2 => ⟨v, h1, h2⟩
    simp only [b25, F25, E25, x25, List.cons_append, List.nil_append, List.mem_cons, List.not_mem_nil, or_false, Prod.mk.injEq] at hm
    rcases hm with ⟨rfl, rfl⟩ | ⟨rfl, rfl⟩ | ⟨rfl, rfl⟩ | ⟨rfl, rfl⟩ | ⟨rfl, rfl⟩ | ⟨rfl, rfl⟩ | ⟨rfl, rfl⟩ | ⟨rfl, rfl⟩ | ⟨rfl, rfl⟩ | ⟨rfl, rfl⟩ | ⟨rfl, rfl⟩ | ⟨rfl, rfl⟩ | ⟨rfl, rfl⟩
    · exact key _ _ _ rfl (.val _ _ (.d _))
    · exact key _ _ _ rfl (.val _ _ (.d _))
    · exact key _ _ _ rfl (.val _ _ (.d _))
    · exact key _ _ _ rfl (.val _ _ (.mp 0 (by decide)))
    · exact key _ _ _ rfl (.val _ _ (.mp 1 (by decide)))
    · exact key _ _ _ rfl (.val _ _ (.d _))
    · exact key _ _ _ rfl (.val _ _ (.d _))
    · exact key _ _ _ rfl (.val _ _ (.d _))
    · exact key _ _ _ rfl (.val _ _ (.d _))
    · exact key _ _ _ rfl (.box _)
    · exact key _ _ _ rfl (.val _ _ (.d _))
    · exact key _ _ _ rfl (.val _ _ (.d _))
    · exact key _ _ _ rfl (.val _ _ (.frz 2 _ (Nat.le_refl _) g4))
end Go.Tev.S1
namespace Go.Tev.S1
open Go.Abs Go.Proofs
def QB (raw : List Cus) (D : Bm) (i : Nat) (x : Cus) (Sv Op : Mv) : Out → Prop := fun o => (Zco Op x = false ∧ ∃ s, o = .norm s ∧ Sub ⟨F25 raw D i ++ [(42, .val (.d (.bool true)))], [], H25 Sv Op⟩ s) ∨
  (Zco Op x = true ∧ ∃ s, o = .goto 0 s ∧ Sub ⟨E25 raw D, [], H25 (Zvc Sv x) (rmv x.name Op)⟩ s)
theorem ZqN {Op : Mv} {x : Cus} (h : ZaV BEq.beq x.name Op = none) : Zco Op x = false := by simp [Zco, h]
theorem Zki {Op : Mv} {x : Cus} {u} (h : ZaV BEq.beq x.name Op = some u) : Zco Op x = !Ycc (Zef [] x.val) Op := by simp [Zco, h, Ycc]
theorem ZwI (raw : List Cus) (D : Bm) (i : Nat) (Sv Op : Mv) (more : List (Nat × SV)) : Sub ⟨F25 raw D i ++ [(42, .val (.d (.bool true)))], [], H25 Sv Op⟩ ((⟨F25 raw D i ++ [(42, .val (.d (.bool true)))] ++ more, [], H25 Sv Op⟩ : St).trim (F25 raw D i ++ [(42, .val (.d (.bool true)))])) := by
  refine ⟨fun k v hv => ?_, rfl, rfl⟩
  simp only [St.trim]
  rw [alook_trimE _ _ _ (by rw [hv]; rfl)]
  exact ZaR hv
theorem Yek (raw : List Cus) (D : Bm) (i : Nat) (x : Cus) (hx : raw[i]? = some x) (hl : Zak x.val ≤ B) (Sv Op : Mv) (hS : OkS Sv) (hO : (Op.map Prod.fst).Nodup) (hd : ∀ a ∈ Op.map Prod.fst, a ∉ Sv.map Prod.fst) :
    Tri C (C.ann 43) (.block 3 BD25) ⟨F25 raw D i ++ [(42, .val (.d (.bool true)))], [], H25 Sv Op⟩ (QB raw D i x Sv Op) := by
  obtain ⟨_, _, _, _, _, k11, k12, k14, k15⟩ := Ztg
  obtain ⟨k16, _, k23, k24, k25, _, _, _, _, _⟩ := Zp7
  refine ZeO ?_
  refine ZaO (call := Zab C K0) Zae mixed Zah k11 (Zyp raw D i x hx _ _) ?_
  cases hm : ZaV BEq.beq x.name Op with
  | none =>
    refine ZcE (Q1 := fun o => o = .exit 3 ⟨F25 raw D i ++ [(42, .val (.d (.bool true))), x25 x, (11, .val (.d (.bool false))), (53, .val (.d (.bool true)))], [], H25 Sv Op⟩) (ZcD (call := Zab C K0) Zae mixed Zah k12 (Zx8 raw D i x _ Sv Op hm) rfl) (fun s hs => by cases hs) ?_
    rintro o rfl _
    refine .inl ⟨ZqN hm, _, rfl, ?_⟩
    exact ZwI raw D i Sv Op [x25 x, (11, .val (.d (.bool false))), (53, .val (.d (.bool true)))]
  | some u =>
    refine ZaO (call := Zab C K0) Zae mixed Zah k12 (Zxm raw D i x _ Sv Op hm) ?_
    obtain ⟨h', g1, g2, g3, g4⟩ := Zkc x.val hl (.map (ZhC Sv)) (.map (ZhC Op))
    refine Zqh (call := Zab C K0) Zae mixed Zah k14 k15 (Yab raw D i x Sv Op) (Zyx raw D i x Sv Op h' g1) (YdD raw D i x Sv Op h' g2 g3 g4) (by simp [H25]) ?_
    refine ZaO (call := Zab C K0) Zae mixed Zah k16 (ZzR raw D i x _ _) ?_
    refine Zhp (ZzB raw D i x Sv Op) ?_
    cases ha : Ycc (Zef [] x.val) Op with
    | true =>
      refine ZcE (Q1 := fun o => o = .exit 3 ⟨c25 raw D i x true ++ [(72, .val (.d (.bool true)))], [], H25 Sv Op⟩) (ZcD (call := Zab C K0) Zae mixed Zah k23 (Ztf raw D i x _).2 rfl) (fun s hs => by cases hs) ?_
      rintro o rfl _
      refine .inl ⟨by rw [Zki hm, ha]; rfl, _, rfl, ?_⟩
      exact ZwI raw D i Sv Op [x25 x, (11, .val (.d (.bool true))), (53, .val (.d (.bool false))), (12, .val (.d (.fmap (ZfI (Zef [] x.val))))), (13, .val (.d (.bool true))), (72, .val (.d (.bool true)))]
    | false =>
      have hS' : x.name ∉ Sv.map Prod.fst := hd _ (ZiM (by rw [hm]; rfl))
      refine ZaO (call := Zab C K0) Zae mixed Zah k23 (Ztf raw D i x _).1 ?_
      refine ZaO (call := Zab C K0) Zae mixed Zah k24 (ZzG raw D i x Sv Op hO) ?_
      refine ZaO (call := Zab C K0) Zae mixed Zah k25 (ZzM raw D i x Sv (rmv x.name Op) _ _ (Zak (Zd7 (lkM Sv) x.val).1) hS' (Zpw hS hl) fun h0 => Zsy (Zxf hS hl h0)) ?_
      refine ZcD (call := Zab C K0) (n := 0) Zae mixed Zah rfl rfl ?_
      refine .inr ⟨by rw [Zki hm, ha]; rfl, _, rfl, ?_⟩
      refine ⟨fun k v hv => ?_, rfl, rfl⟩
      show Zad (d25 raw D i x ++ _) k = some v
      unfold d25 c25 b25 F25
      exact ZaR (ZaR (ZaR (ZaR (ZaR hv))))
def QL (raw : List Cus) (D : Bm) (Sv Op : Mv) : Out → Prop := fun o => (raw.find? (Zco Op) = none ∧ ∃ s, o = .norm s ∧ Sub ⟨E25 raw D, [], H25 Sv Op⟩ s) ∨
  (∃ x, raw.find? (Zco Op) = some x ∧ ∃ s, o = .goto 0 s ∧ Sub ⟨E25 raw D, [], H25 (Zvc Sv x) (rmv x.name Op)⟩ s)
theorem Yc1 {raw : List Cus} {f : Cus → Bool} : ∀ {i : Nat} {x : Cus}, raw[i]? = some x → f x = true → (∀ j y, j < i → raw[j]? = some y → f y = false) → raw.find? f = some x := by
  induction raw with
  | nil => intro i x hx; simp at hx
  | cons y r ih =>
    intro i x hx hf h
    cases i with
    | zero => cases hx; exact List.find?_cons_of_pos hf
    | succ i =>
      rw [List.find?_cons_of_neg (by rw [h 0 y (Nat.succ_pos _) rfl]; decide)]
      exact ih (by simpa using hx) hf fun j z hj hz => h (j + 1) z (by omega) (by simpa using hz)
theorem Yas (raw : List Cus) (hok : ZhI raw) (Sv Op : Mv) (D : Bm) (hS : OkS Sv) (hO : (Op.map Prod.fst).Nodup) (hd : ∀ a ∈ Op.map Prod.fst, a ∉ Sv.map Prod.fst) :
    Tri C (C.ann 43) (.seq Zxs LP25) ⟨E25 raw D, [], H25 Sv Op⟩ (QL raw D Sv Op) := by
  obtain ⟨_, _, _, k9, k10, _, _, _, _⟩ := Ztg
  obtain ⟨_, _, _, _, _, k28, _, _, _, _⟩ := Zp7
  have hB : B = 2 ^ 36 := rfl
  have hV : V = 2 ^ 24 := rfl
  have hlen : raw.length < 2 ^ 40 := Nat.lt_of_le_of_lt hok.1 (by rw [hB]; decide)
  have e0 : ∀ (i : Nat) (s : St), Sub ⟨E25 raw D, [], H25 Sv Op⟩ ((⟨F25 raw D i ++ [(42, .val (.d (.bool false)))], [], H25 Sv Op⟩ : St).trim (F25 raw D 0)) := fun i s => by
    refine sub_list (s := ⟨F25 raw D i ++ [(42, .val (.d (.bool false)))], [], H25 Sv Op⟩) fun q hq => ?_
    simp only [E25, List.mem_cons, List.not_mem_nil, or_false] at hq
    rcases hq with rfl | rfl | rfl | rfl | rfl <;> exact ⟨rfl, rfl⟩
  refine ZaO (call := Zab C K0) Zae mixed Zah k9 (YcV raw D _) ?_
  refine ZeO ?_
  refine ZiN (fun m s => ∃ i, i ≤ raw.length ∧ m = raw.length - i ∧ s = ⟨F25 raw D i, [], H25 Sv Op⟩ ∧ ∀ j y, j < i → raw[j]? = some y → Zco Op y = false) (n := raw.length) ⟨0, Nat.zero_le _, rfl, rfl, fun j y hj => absurd hj (Nat.not_lt_zero _)⟩ ?_
  rintro m s ⟨i, hi, rfl, rfl, hno⟩
  refine ZaO (call := Zab C K0) Zae mixed Zah k10 (Zzr raw D i _) ?_
  rcases Nat.lt_or_ge i raw.length with hlt | hge
  · have hx := List.getElem?_eq_getElem hlt
    have hdt : decide ((i : Int) < (raw.length : Int)) = true := by simpa using hlt
    rw [hdt]
    refine ZcE (Q1 := fun o => o = .norm ⟨F25 raw D i ++ [(42, .val (.d (.bool true)))], [], H25 Sv Op⟩) (Zhu (b := true) rfl (ZkQ rfl)) ?_ (fun o h1 h2 => absurd h1 (h2 _))
    rintro s hs
    cases hs
    refine ZcE (Yek raw D i raw[i] hx (Nat.le_trans (hok.2 raw[i] (List.getElem_mem hlt)) (by rw [hB, hV]; decide)) Sv Op hS hO hd) ?_ ?_
    · rintro s (⟨hr, s', hs, hsub⟩ | ⟨hr, s', hs, hsub⟩)
      · cases hs
        refine Zn8 hsub ?_
        refine ZcD (call := Zab C K0) Zae mixed Zah k28 (Yaj raw D i (by omega) _ _) ?_
        refine ⟨raw.length - (i + 1), ⟨F25 raw D (i + 1), [], H25 Sv Op⟩, by omega, ⟨i + 1, hlt, rfl, rfl, fun j y hj hy => ?_⟩, fun k v hv => ZaR hv, rfl, rfl⟩
        rcases Nat.lt_or_ge j i with h | h
        · exact hno j y h hy
        · have : j = i := by omega
          subst this
          rw [hx] at hy
          cases hy
          exact hr
      · cases hs
    · rintro o (⟨hr, s', rfl, hsub⟩ | ⟨hr, s', rfl, hsub⟩) hne
      · exact absurd rfl (hne s')
      · simp only [Za1]
        exact .inr ⟨raw[i], Yc1 hx hr hno, s', rfl, hsub⟩
  · have he : i = raw.length := by omega
    subst he
    rw [show decide ((raw.length : Int) < (raw.length : Int)) = false by simp]
    refine ZcE (Q1 := fun o => o = .exit 2 ⟨F25 raw D raw.length ++ [(42, .val (.d (.bool false)))], [], H25 Sv Op⟩) (Zhu (b := false) rfl (ZnG rfl)) (fun s hs => by cases hs) ?_
    rintro o rfl _
    simp only [Za1]
    refine .inl ⟨?_, _, rfl, e0 _ ⟨[], [], []⟩⟩
    rw [List.find?_eq_none]
    intro y hy
    obtain ⟨j, hj, rfl⟩ := List.mem_iff_getElem.1 hy
    rw [hno j _ hj (List.getElem?_eq_getElem hj)]
    decide
end Go.Tev.S1
namespace Go.Abs
theorem Has.hasn {P : Program} {f : FuncId} {args : List AV} {h : List AObj} {r : AV} {h' : List AObj} (H : Has P f args h r h') : HasN P f args h (fun r2 h2 => r2 = r ∧ h2 = h') :=
  ⟨H.1, fun w own vs H1 H2 H3 H4 => (H.2 w own vs H1 H2 H3 H4).mono fun e w' ⟨v, own', h1, h2, h3, h4, h5, h6⟩ => ⟨v, own', r, h', ⟨rfl, rfl⟩, h1, h2, h3, h4, h5, h6⟩⟩
end Go.Abs
namespace Go.Tev.S1
open Go.Abs Go.Proofs
def Ze7 (raw : List Cus) (Sv : Mv) : List Cus := raw.filterMap fun x => (ZaV BEq.beq x.name Sv).map fun v => ⟨x.name, v⟩
theorem Zo5 (raw : List Cus) (Sv : Mv) : (Ze7 raw Sv).length ≤ raw.length := List.length_filterMap_le _ _
theorem Yak (raw : List Cus) (hl : raw.length < 2 ^ 40) (D : Bm) (Sv Op : Mv) : Tri C (C.ann 43) (.seq ZpS (.block 6 (.loop ZoT))) ⟨E25 raw D ++ [(19, .own [])], [], H25 Sv Op⟩ (Yc8 (n25 raw D (Ze7 raw Sv) raw.length) (H25 Sv Op)) := by
  obtain ⟨_, _, _, _, _, _, _, k30, kL, _⟩ := Zp7
  refine ZaO (call := Zab C K0) Zae mixed Zah k30 (Zzh raw D _) ?_
  refine ZeO ?_
  refine ZiN (fun m s => ∃ i, i ≤ raw.length ∧ m = raw.length - i ∧ s = ⟨n25 raw D (Ze7 (raw.take i) Sv) i, [], H25 Sv Op⟩) (n := raw.length) ⟨0, Nat.zero_le _, rfl, rfl⟩ ?_
  rintro m s ⟨i, hi, rfl, rfl⟩
  rcases Nat.lt_or_ge i raw.length with hlt | hge
  · have hx := List.getElem?_eq_getElem hlt
    have hle : (Ze7 (raw.take i) Sv).length ≤ i := Nat.le_trans (Zo5 _ _) (List.length_take_le _ _)
    have htk : Ze7 (raw.take (i + 1)) Sv = Ze7 (raw.take i) Sv ++ (match ZaV BEq.beq raw[i].name Sv with | some v => [⟨raw[i].name, v⟩] | none => []) := by
      rw [ZbG hx]
      unfold Ze7
      rw [List.filterMap_append]
      congr 1
      simp only [List.filterMap_cons, List.filterMap_nil]
      cases ZaV BEq.beq raw[i].name Sv <;> rfl
    cases hS : ZaV BEq.beq raw[i].name Sv with
    | none =>
      rw [hS, List.append_nil] at htk
      refine ZcD (call := Zab C K0) Zae mixed Zah kL (Zyk raw D _ i _ hx hl Sv Op hS) ?_
      refine ⟨raw.length - (i + 1), ⟨n25 raw D (Ze7 (raw.take i) Sv) (i + 1), [], _⟩, by omega, ⟨i + 1, hlt, rfl, by rw [htk]⟩, fun k v hv => ZaR hv, rfl, rfl⟩
    | some v =>
      rw [hS] at htk
      have hst : (⟨n25 raw D (Ze7 (raw.take i) Sv ++ [⟨raw[i].name, v⟩]) (i + 1), [], H25 Sv Op⟩ : St) = ⟨n25 raw D (Ze7 (raw.take (i + 1)) Sv) (i + 1), [], H25 Sv Op⟩ := by rw [htk]
      refine ZcD (call := Zab C K0) Zae mixed Zah kL (Zy6 raw D _ i _ hx hl hle Sv Op hS) ?_
      refine ⟨raw.length - (i + 1), ⟨n25 raw D (Ze7 (raw.take i) Sv ++ [⟨raw[i].name, v⟩]) (i + 1), [], H25 Sv Op⟩, by omega, ⟨i + 1, hlt, rfl, hst⟩, ?_⟩
      exact ⟨fun k v hv => ZaR hv, rfl, rfl⟩
  · have he : i = raw.length := by omega
    subst he
    refine ZcD (call := Zab C K0) Zae mixed Zah kL (Yai raw D _ _) ?_
    simp only [Za1]
    refine ⟨_, rfl, ?_⟩
    rw [List.take_length]
    refine ⟨fun k v hv => ?_, rfl, rfl⟩
    have hk : (Zad (n25 raw D [] 0) k).isSome = true := by
      have hm := sub_list.alook_mem0' hv
      simp only [n25, E25, List.cons_append, List.nil_append, List.mem_cons, List.not_mem_nil, or_false, Prod.mk.injEq] at hm
      rcases hm with ⟨rfl, _⟩ | ⟨rfl, _⟩ | ⟨rfl, _⟩ | ⟨rfl, _⟩ | ⟨rfl, _⟩ | ⟨rfl, _⟩ | ⟨rfl, _⟩ | ⟨rfl, _⟩ | ⟨rfl, _⟩ <;> rfl
    simp only [St.trim]
    rw [alook_trimE _ _ _ hk]
    exact ZaR hv
def QP (raw : List Cus) (D : Bm) (Sv Op : Mv) : Out → Prop := fun o => (raw.find? (Zco Op) = none ∧ ∃ s, o = .ret s ∧ Zcj C s Tryz.f43.results.toList = some [.d (.slc ((Ze7 raw Sv).map Cus.enc))]) ∨
  (∃ x, raw.find? (Zco Op) = some x ∧ ∃ s, o = .goto 0 s ∧ Sub ⟨E25 raw D, [], H25 (Zvc Sv x) (rmv x.name Op)⟩ s)
theorem Yen (raw : List Cus) (hok : ZhI raw) (Sv Op : Mv) (D : Bm) (hS : OkS Sv) (hO : (Op.map Prod.fst).Nodup) (hd : ∀ a ∈ Op.map Prod.fst, a ∉ Sv.map Prod.fst) :
    Tri C (C.ann 43) Yew ⟨E25 raw D, [], H25 Sv Op⟩ (QP raw D Sv Op) := by
  obtain ⟨_, _, _, _, _, _, k29, _, _, k37⟩ := Zp7
  have hB : B = 2 ^ 36 := rfl
  have hlen : raw.length < 2 ^ 40 := Nat.lt_of_le_of_lt hok.1 (by rw [hB]; decide)
  refine ZcE (Yas raw hok Sv Op D hS hO hd) ?_ ?_
  · rintro s (⟨hr, s', hs, hsub⟩ | ⟨x, hr, s', hs, hsub⟩)
    · cases hs
      refine Zn8 hsub ?_
      refine ZaO (call := Zab C K0) Zae mixed Zah k29 (Zys raw D _) ?_
      refine Zhp (Yak raw hlen D Sv Op) ?_
      obtain ⟨s1, e1, e2⟩ := ZyD (call := Zab C K0) raw D (Ze7 raw Sv) raw.length (H25 Sv Op)
      refine ZaO (call := Zab C K0) Zae mixed Zah k37 e1 ?_
      refine ZcD (call := Zab C K0) (n := 0) Zae mixed Zah rfl rfl ?_
      exact .inl ⟨hr, s1, rfl, e2⟩
    · cases hs
  · rintro o (⟨hr, s', rfl, hsub⟩ | ⟨x, hr, s', rfl, hsub⟩) hne
    · exact absurd rfl (hne s')
    · exact .inr ⟨x, hr, s', rfl, hsub⟩
noncomputable def ZcC (raw : List Cus) : Mv := ZhL raw (ZjT raw).length [] (ZjT raw)
theorem YbO : findLabel S25 0 = some (.seq .skip Yew) := by kernel_rfl
set_option maxRecDepth 4000 in
theorem Zq1 (raw : List Cus) (hn : (raw.map Cus.name).Nodup) (hok : ZhI raw) : Has Tryz.prog 43 [.d (d44 raw)] [] (.d (.slc ((Ze7 raw (ZcC raw)).map Cus.enc))) [] := by
  obtain ⟨k0, k2, _, _, _, _, _, _, _⟩ := Ztg
  have hB : B = 2 ^ 36 := rfl
  have hlen : raw.length < 2 ^ 40 := Nat.lt_of_le_of_lt hok.1 (by rw [hB]; decide)
  have h : HasN Tryz.prog 43 [.d (d44 raw)] [] (fun r h' => r = .d (.slc ((Ze7 raw (ZcC raw)).map Cus.enc))) := by
    refine ZeK (C := C) (f := 43) (fn := Tryz.f43) Tryz.func43 Ybx (by kernel_rfl) ?_
    refine ZaO (call := Zab C K0) Zae mixed Zah k0 (Yb2 raw) ?_
    let I : Nat → St → Prop := fun m s => ∃ Sv Op n, s = ⟨E25 raw (Zbb raw), [], H25 Sv Op⟩ ∧ m = Op.length ∧ OkS Sv ∧ (Op.map Prod.fst).Nodup ∧ (∀ a ∈ Op.map Prod.fst, a ∉ Sv.map Prod.fst) ∧ Op.length ≤ n ∧ ZhL raw n Sv Op = ZcC raw
    have pass : ∀ m s, I m s → Tri C (C.ann 43) Yew s fun o => match o with
        | .goto l' s' => l' = 0 ∧ ∃ k s2, k < m ∧ I k s2 ∧ Sub s2 s'
        | o => endQ C Tryz.f43 (fun r h' => r = .d (.slc ((Ze7 raw (ZcC raw)).map Cus.enc))) o := by
      rintro m s ⟨Sv, Op, n, rfl, rfl, hS, hO, hd, hle, hs⟩
      refine Zta (Yen raw hok Sv Op (Zbb raw) hS hO hd) ?_
      rintro o (⟨hr, s', rfl, he⟩ | ⟨x, hr, s', rfl, hsub⟩)
      · refine ⟨_, he, ?_⟩
        have : ZhL raw n Sv Op = Sv := by
          cases n with
          | zero => rfl
          | succ n => simp only [ZhL, hr]
        rw [← hs, this]; rfl
      · have hx := List.find?_some hr
        have hxo : x.name ∈ Op.map Prod.fst := by
          simp only [Zco, Bool.and_eq_true] at hx
          exact ZiM hx.1
        have hlt := YaL hxo
        cases n with
        | zero => omega
        | succ n =>
          simp only [ZhL, hr] at hs
          exact ⟨rfl, (rmv x.name Op).length, _, hlt, ⟨Zvc Sv x, rmv x.name Op, n, rfl, rfl, Zx0 hS x, Zw6 hO, fun a ha hb => by
            obtain ⟨h1, h2⟩ := rmv_names.1 ha
            rcases Zna Sv x a hb with h3 | h3
            · exact hd a h1 h3
            · exact h2 h3, by omega, hs⟩, hsub⟩
    have first : I (ZjT raw).length ⟨E25 raw (Zbb raw), [], H25 [] (ZjT raw)⟩ := by
      refine ⟨[], ZjT raw, (ZjT raw).length, rfl, rfl, fun p hp => by simp at hp, ?_, fun a _ hb => by simp at hb, Nat.le_refl _, rfl⟩
      have : ((Znx raw).map Prod.fst).Nodup := by rw [Zjr]; exact hn
      exact (List.Sublist.map _ List.filter_sublist).nodup this
    refine ZvZ YbO I ?_ ?_
    · rw [Yar]
      refine ZcE (Q1 := fun o => o = .norm ⟨[(0, .val (.d (d44 raw))), (2, .val (.d (.slc []))), (3, .val (.d (.fmap (ZfI (Zbb raw)))))], [], []⟩) ?_ ?_ (fun o h1 h2 => absurd h1 (h2 _))
      · refine ZhD (call := Zab C K0) Zae Zah YeE (Yb9 raw) o25_1.1 (Q2 := fun s => s = ⟨[(0, .val (.d (d44 raw))), (2, .val (.d (.slc [])))], [(25, .a (.d (.fmap (ZfI (Zbb raw))))), (24, .a (.d (d44 raw)))], []⟩) ?_ ?_
        · intro own a w S K X hKK
          refine Zhw (C := C) (st := ⟨[(0, .val (.d (d44 raw))), (2, .val (.d (.slc [])))], [(24, .a (.d (d44 raw)))], []⟩) Zae o25_1.2.2 rfl (fv := .d (.fn 62 [])) (vs := [.d (d44 raw)]) (caps := []) rfl rfl rfl (ZrF raw hn hok).hasn (fun r h' ⟨h1, h2⟩ => by
            subst h1 h2
            rw [o25_1.2.1]
            exact ⟨_, rfl⟩) own a w S K X ?_
          rintro a' w' st' own' ⟨r, h', ⟨rfl, rfl⟩, hput⟩
          rw [o25_1.2.1] at hput
          cases hput
          exact hKK a' w' _ own' rfl
        · rintro s rfl
          exact ⟨_, Zyw raw (Zbb raw), rfl⟩
      · rintro s hs
        cases hs
        refine ZaO (call := Zab C K0) Zae mixed Zah k2 (Ydc raw (Zbb raw)) ?_
        refine ZcE (Q1 := fun o => o = .norm ⟨E25 raw (Zbb raw), [], H25 [] (Znx raw)⟩) ?_ ?_ (fun o h1 h2 => absurd h1 (h2 _))
        · refine ZhD (call := Zab C K0) Zae Zah YeT (Ycd raw (Zbb raw)) o25_3.1 (Q2 := fun s => s = ⟨[(0, .val (.d (d44 raw))), (2, .val (.d (.slc []))), (3, .val (.d (.fmap (ZfI (Zbb raw))))), (4, .val (.mp 0))], [(28, .a (.mp 1)), (27, .a (.d (d44 raw)))], H25 [] (Znx raw)⟩) ?_ ?_
          · intro own a w S K X hKK
            refine Zhw (C := C) (st := ⟨[(0, .val (.d (d44 raw))), (2, .val (.d (.slc []))), (3, .val (.d (.fmap (ZfI (Zbb raw))))), (4, .val (.mp 0))], [(27, .a (.d (d44 raw)))], [.map []]⟩) Zae o25_3.2.2 rfl (fv := .d (.fn 35 [])) (vs := [.d (d44 raw)]) (caps := []) rfl rfl rfl (Zuu raw hn hlen (.map [])) (fun r h' ⟨h1, h2⟩ => by
              subst h1 h2
              rw [o25_3.2.1]
              exact ⟨_, rfl⟩) own a w S K X ?_
            rintro a' w' st' own' ⟨r, h', ⟨rfl, rfl⟩, hput⟩
            rw [o25_3.2.1] at hput
            cases hput
            exact hKK a' w' _ own' rfl
          · rintro s rfl
            exact ⟨_, ZzF raw (Zbb raw) _, rfl⟩
        · rintro s hs
          cases hs
          refine Zhp (Yaq raw hn) ?_
          refine ZaO (call := Zab C K0) (n := 0) Zae mixed Zah rfl rfl ?_
          refine Zta (pass _ _ first) ?_
          intro o ho
          cases o with
          | goto l s => obtain ⟨h1, k, s2, _, h2, h3⟩ := ho; exact ⟨h1, k, s2, h2, h3⟩
          | _ => exact ho
    · rintro m s hI
      have : s.tmp = [] := by obtain ⟨_, _, _, rfl, _⟩ := hI; rfl
      refine ZaO (call := Zab C K0) (n := 0) Zae mixed Zah rfl rfl ?_
      exact pass m s hI
  refine HasN.frozen (ds := [d44 raw]) h ?_
  rintro r h' rfl
  exact ⟨0, rfl⟩
end Go.Tev.S1
namespace Go.Tev.S1
open Go.Abs Go.Proofs
mutual
theorem Yca : ∀ a b : Val, a.enc = b.enc → a = b
  | .mk ⟨k, t, n, u, f⟩ l, .mk ⟨k', t', n', u', f'⟩ l', h => by
    simp only [Val.enc, DV.agg.injEq, List.cons.injEq, DV.int.injEq, DV.str.injEq, DV.bool.injEq, DV.slc.injEq, true_and, and_true] at h
    obtain ⟨rfl, rfl, rfl, rfl, rfl, h6⟩ := h
    rw [Zn7 l l' h6]
theorem Zn7 : ∀ a b : List Val, Zya a = Zya b → a = b
  | [], [], _ => rfl
  | [], b :: l, h => by simp [Zya] at h
  | a :: l, [], h => by simp [Zya] at h
  | a :: l, b :: l', h => by
    simp only [Zya, List.cons.injEq] at h
    rw [Yca a b h.1, Zn7 l l' h.2]
end
theorem Ybt (a b : Cus) (h : a.enc = b.enc) : a = b := by
  obtain ⟨n, v⟩ := a
  obtain ⟨n', v'⟩ := b
  simp only [Cus.enc, DV.agg.injEq, List.cons.injEq, DV.str.injEq, DV.slc.injEq, and_true, ← Zo2] at h
  obtain ⟨rfl, h2⟩ := h
  rw [Zn7 v v' h2]
theorem Zwq {a b : List Cus} (h : d44 a = d44 b) : a = b := by
  simp only [d44, DV.slc.injEq] at h
  induction a generalizing b with
  | nil => cases b with
    | nil => rfl
    | cons y b => simp at h
  | cons x a ih => cases b with
    | nil => simp at h
    | cons y b =>
      simp only [List.map_cons, List.cons.injEq] at h
      rw [Ybt x y h.1, ih h.2]
theorem ZrQ {K : Zaa} {f : FuncId} {t rt : Nat} {s : X t → Option (X rt)} (h : ∀ a r, s a = some r → K f [.d (U.enc t a)] [] = some (.d (U.enc rt r), [])) : Zaj U (Zab C K) f ⟨true, [.ty t], [rt], s⟩ := by
  intro vs a r ds g hp hd hs hr
  have hp : Zux U [.ty t] vs = some a := hp
  unfold Zux at hp
  split at hp
  · rename_i ws hws
    have e1 : vs = ws := by
      cases vs with
      | nil => simp [Zc0] at hws
      | cons v vs =>
        simp only [Zc0] at hws
        split at hws
        · rename_i ws' h2
          cases hws
          cases vs with
          | nil => simp only [Zc0] at h2; cases h2; rfl
          | cons v2 vs => simp [Zc0] at h2
        · cases hws
    subst e1
    cases vs with
    | nil => cases hp
    | cons v vs =>
      cases vs with
      | cons v2 vs => cases hp
      | nil =>
        have hp : U.prj t v = some a := hp
        have hv := ok.prj _ _ _ hp
        simp only [dvL, hv, Option.some.injEq] at hd
        subst hd
        have hr : U.inj rt = some g := hr
        refine ⟨_, ok.inj _ _ r hr, ?_⟩
        unfold Zb8
        have : Zab C K f [.d (U.enc t a)] [] = some (.d (U.enc rt r), []) := Zf0 (h a r hs)
        simp only [List.map_cons, List.map_nil, this]
  · cases hp
open Classical in
noncomputable def Yd2 (F : List Cus → Prop) (G : List Cus → DV) (args : List AV) (h : List AObj) : Option (AV × List AObj) := if e : ∃ raw : List Cus, args = [.d (d44 raw)] ∧ h = [] ∧ F raw then some (.d (G e.choose), []) else none
theorem ZxG {F : List Cus → Prop} {G : List Cus → DV} {args : List AV} {h : List AObj} {r : AV} {h' : List AObj} (he : Yd2 F G args h = some (r, h')) : ∃ raw, args = [.d (d44 raw)] ∧ h = [] ∧ F raw ∧ r = .d (G raw) ∧ h' = [] := by
  unfold Yd2 at he
  split at he
  · rename_i e
    obtain ⟨h1, h2, h3⟩ := e.choose_spec
    cases he
    exact ⟨_, h1, h2, h3, rfl, rfl⟩
  · cases he
theorem Yc5 {F : List Cus → Prop} (G : List Cus → DV) {raw : List Cus} (hF : F raw) : Yd2 F G [.d (d44 raw)] [] = some (.d (G raw), []) := by
  have e : ∃ r : List Cus, [AV.d (d44 raw)] = [.d (d44 r)] ∧ ([] : List AObj) = [] ∧ F r := ⟨raw, rfl, rfl, hF⟩
  unfold Yd2
  rw [dif_pos e]
  have h1 := e.choose_spec.1
  have h2 : raw = e.choose := Zwq (by simpa using h1)
  rw [← h2]
noncomputable def K1 : Zaa := fun f args h =>
  bif Nat.beq f 43 then Yd2 (fun raw => (raw.map Cus.name).Nodup ∧ ZhI raw) (fun raw => .slc ((Ze7 raw (ZcC raw)).map Cus.enc)) args h
  else K0 f args h
theorem Ye7 : ZaY Tryz.prog K1 := by
  intro f args h r h' he
  unfold K1 at he
  cases hb : Nat.beq f 43 with
  | true =>
    rw [hb, cond_true] at he
    have := Nat.eq_of_beq_eq_true hb
    subst this
    obtain ⟨raw, rfl, rfl, hF, rfl, rfl⟩ := ZxG he
    exact Zq1 raw hF.1 hF.2
  | false =>
    rw [hb, cond_false] at he
    exact YdL _ _ _ _ _ he
theorem YbU : Zcu K1 := by
  intro f args h hf
  unfold K1
  rw [show Nat.beq f 43 = false from beq_ne.2 fun e => hf (by subst e; decide)]
  exact Zjy f args h hf
open Classical in
noncomputable def ZlK (raw : List Cus) : Option (List Cus) := if (raw.map Cus.name).Nodup ∧ ZhI raw then some (Ze7 raw (ZcC raw)) else none
theorem Zvl {raw : List Cus} (h : (raw.map Cus.name).Nodup) (h2 : ZhI raw) : ZlK raw = some (Ze7 raw (ZcC raw)) := if_pos ⟨h, h2⟩
end Go.Tev.S1
namespace Go.Tev.S1
open Go.Abs Go.Proofs
theorem mem_usesL {n : List UInt8} {l : List Val} : n ∈ Zbh l ↔ ∃ v ∈ l, n ∈ v.uses := by
  induction l with
  | nil => simp [Zbh]
  | cons v l ih => simp [Zbh, ih]
theorem ZqH {v : Val} : ∀ {l : List Val}, v ∈ spL l → v ∈ l
  | [], h => h
  | w :: r, h => by
    unfold spL at h
    split at h
    · exact List.mem_cons_of_mem _ (ZqH h)
    · exact h
theorem YcA {v : Val} {l : List Val} (h : v ∈ trL l) : v ∈ l := by
  unfold trL trR at h
  rw [List.mem_reverse] at h
  have := ZqH h
  rw [List.mem_reverse] at this
  exact ZqH this
theorem ZxI {v : Val} {l : List Val} (h : v ∈ (Zaw l).2.1) : v ∈ l := by
  unfold Zaw at h
  split at h
  · simp at h
  · rename_i x r e
    split at h
    · split at h
      · simp at h
      · rename_i y s e2
        split at h
        · have h1 : v ∈ s := YcA h
          have h2 : v ∈ spL r := by rw [e2]; exact List.mem_cons_of_mem _ h1
          have h3 : v ∈ spL l := by rw [e]; exact List.mem_cons_of_mem _ (ZqH h2)
          exact ZqH h3
        · simp at h
    · simp at h
def Agree (lk lk' : Lk) (l : List Val) : Prop := lk [] = lk' [] ∧ ∀ n ∈ Zbh l, lk n = lk' n
theorem Agree.parts {lk lk' : Lk} {v : Val} {r : List Val} (h : Agree lk lk' (v :: r)) : Agree lk lk' r ∧ Agree lk lk' v.l ∧ Agree lk lk' (Zaw v.l).2.1 ∧ (v.ref = true → lk (Zaw v.l).1 = lk' (Zaw v.l).1) := by
  obtain ⟨h0, h⟩ := h
  have h1 : ∀ n ∈ v.uses, lk n = lk' n := fun n hn => h n (by rw [Zbh]; exact List.mem_append_left _ hn)
  have h2 : ∀ n ∈ Zbh v.l, lk n = lk' n := fun n hn => h1 n (by rw [Val.uses_eq]; exact List.mem_append_right _ hn)
  refine ⟨⟨h0, fun n hn => h n (by rw [Zbh]; exact List.mem_append_right _ hn)⟩, ⟨h0, h2⟩, ⟨h0, fun n hn => ?_⟩, fun hr => ?_⟩
  · obtain ⟨w, hw, hn⟩ := mem_usesL.1 hn
    exact h2 n (mem_usesL.2 ⟨w, ZxI hw, hn⟩)
  · by_cases e : (Zaw v.l).1 = []
    · rw [e]; exact h0
    · refine h1 _ ?_
      rw [Val.uses_eq]
      refine List.mem_append_left _ ?_
      have : (v.ref && ((Zaw v.l).1 != [])) = true := by rw [hr]; simpa using e
      rw [if_pos this]
      exact List.mem_singleton.2 rfl
theorem Zv9 {lk lk' : Lk} : ∀ l, Agree lk lk' l → ZeA lk l = ZeA lk' l ∧ Zeg lk l = Zeg lk' l := by
  refine Zhb _ ?_ ?_
  · intro _; exact ⟨by rw [Zc9, Zc9], by rw [Ze5, Ze5]⟩
  · intro v r h1 h2 h3 ha
    obtain ⟨a1, a2, a3, a4⟩ := ha.parts
    obtain ⟨b1, c1⟩ := h1 a1
    obtain ⟨b2, c2⟩ := h2 a2
    obtain ⟨b3, c3⟩ := h3 a3
    rw [ZcH, ZcH, Zea, Zea, b1, c1]
    cases hr : v.ref with
    | false =>
      rw [ZoC hr, ZoC hr, ZrX hr, ZrX hr, b2, c2]
      exact ⟨rfl, rfl⟩
    | true =>
      have a4 := a4 hr
      unfold Zsn ZuT
      rw [if_pos hr, if_pos hr, if_pos hr, if_pos hr, a4, b3, c3]
      exact ⟨rfl, rfl⟩
theorem Zw8 {lk lk' : Lk} {l : List Val} (h : Agree lk lk' l) : Zd7 lk l = Zd7 lk' l := by
  obtain ⟨h1, h2⟩ := Zv9 l h
  unfold Zd7
  rw [h1, h2]
def Zrz (lk : Lk) (x : Cus) : Option (List Val) := bif decide ((Zd7 lk x.val).2 = 0) && decide ((Zak (Zd7 lk x.val).1 : Int) ≤ 2000) then some (Zd7 lk x.val).1 else none
theorem Zje {lk lk' : Lk} {x : Cus} (h : Agree lk lk' x.val) : Zrz lk x = Zrz lk' x := by unfold Zrz; rw [Zw8 h]
theorem ZvL {α : Type} {R : α → α → Prop} (tr : ∀ {a b c}, R a b → R b c → R a c) : ∀ S : List α, S ≠ [] → (∀ a ∈ S, ¬ R a a) → ∃ m ∈ S, ∀ b ∈ S, ¬ R m b
  | [], h, _ => absurd rfl h
  | a :: S, _, h => by
    have ha := h a List.mem_cons_self
    cases S with
    | nil =>
      refine ⟨a, List.mem_cons_self, fun b hb => ?_⟩
      rw [List.mem_singleton] at hb
      subst hb
      exact ha
    | cons c S =>
      obtain ⟨m, hm, hmx⟩ := ZvL (R := R) tr (c :: S) (by simp) (fun x hx => h x (List.mem_cons_of_mem _ hx))
      by_cases hma : R m a
      · refine ⟨a, List.mem_cons_self, fun b hb hab => ?_⟩
        rcases List.mem_cons.1 hb with rfl | hb
        · exact ha hab
        · exact hmx b hb (tr hma hab)
      · refine ⟨m, List.mem_cons_of_mem _ hm, fun b hb => ?_⟩
        rcases List.mem_cons.1 hb with rfl | hb
        · exact hma
        · exact hmx b hb
theorem Path.trans {G : Nd} {a b c : List UInt8} (h : Path G a b) (k : Path G b c) : Path G a c := by
  induction h with
  | one e => exact .step e k
  | step e t ih => exact .step e (ih k)
def Znu (raw : List Cus) (n : List UInt8) : Prop := Path (Za3 raw) n n
structure Sol (raw : List Cus) (lk : Lk) : Prop where
  out : ∀ n, n ∉ raw.map Cus.name → lk n = none
  loop : ∀ n, Znu raw n → lk n = none
  val : ∀ x ∈ raw, ¬ Znu raw x.name → lk x.name = Zrz lk x
theorem Zqp {raw : List Cus} (hn : (raw.map Cus.name).Nodup) {x : Cus} (hx : x ∈ raw) : ZaV BEq.beq x.name (Za3 raw) = some (Zef [] x.val) := by
  induction raw with
  | nil => cases hx
  | cons y r ih =>
    rw [List.map_cons, List.nodup_cons] at hn
    simp only [Za3, List.map_cons, ZaV]
    rcases List.mem_cons.1 hx with rfl | hx
    · simp
    · have : (x.name == y.name) = false := by
        rw [beq_eq_false_iff_ne]
        intro e
        exact hn.1 (e ▸ List.mem_map.2 ⟨x, hx, rfl⟩)
      rw [this, cond_false]
      exact ih hn.2 hx
theorem Zwb {raw : List Cus} {n : List UInt8} (h : n ∈ raw.map Cus.name) : (ZaV BEq.beq n (Za3 raw)).isSome = true := by
  cases e : ZaV BEq.beq n (Za3 raw) with
  | some u => rfl
  | none =>
    exfalso
    induction raw with
    | nil => simp at h
    | cons y r ih =>
      simp only [Za3, List.map_cons, ZaV] at e
      cases e2 : (n == y.name) with
      | true => rw [e2] at e; cases e
      | false =>
        rw [e2] at e
        rw [List.map_cons, List.mem_cons] at h
        rcases h with h | h
        · rw [beq_eq_false_iff_ne] at e2; exact e2 h
        · exact ih h e
theorem mem_col {n : List UInt8} {l : List Val} : n ∈ ZbN (Zef [] l) ↔ n ∈ Zbh l := by
  have put : ∀ (k : List UInt8) (h : Bm), n ∈ ZbN (Zgw BEq.beq k true h) ↔ n = k ∨ n ∈ ZbN h := by
    intro k h
    induction h with
    | nil => simp [Zgw, ZbN]
    | cons p h ih =>
      obtain ⟨k', b⟩ := p
      simp only [Zgw]
      cases e : (k == k') with
      | true =>
        rw [beq_iff_eq] at e
        subst e
        simp [ZbN]
      | false =>
        simp only [cond_false, ZbN, List.map_cons, List.mem_cons] at ih ⊢
        rw [ih]
        constructor
        · rintro (h | h | h)
          · exact .inr (.inl h)
          · exact .inl h
          · exact .inr (.inr h)
        · rintro (h | h | h)
          · exact .inr (.inl h)
          · exact .inl h
          · exact .inr (.inr h)
  have : ∀ (us : List (List UInt8)) (h : Bm), n ∈ ZbN (us.foldl (fun h n => Zgw BEq.beq n true h) h) ↔ n ∈ us ∨ n ∈ ZbN h := by
    intro us
    induction us with
    | nil => intro h; simp
    | cons k us ih =>
      intro h
      rw [List.foldl_cons, ih, put, List.mem_cons]
      constructor
      · rintro (h | h | h)
        · exact .inl (.inr h)
        · exact .inl (.inl h)
        · exact .inr h
      · rintro ((h | h) | h)
        · exact .inr (.inl h)
        · exact .inl h
        · exact .inr (.inr h)
  unfold Zef
  rw [this]
  simp [ZbN]
theorem Zjf {raw : List Cus} (hn : (raw.map Cus.name).Nodup) {x : Cus} (hx : x ∈ raw) {m : List UInt8} : Edge (Za3 raw) x.name m ↔ m ∈ Zbh x.val ∧ m ∈ raw.map Cus.name := by
  constructor
  · rintro ⟨u, h1, h2, h3⟩
    rw [Zqp hn hx] at h1
    cases h1
    refine ⟨mem_col.1 h2, ?_⟩
    have := ZiM h3
    rw [Zlk] at this
    exact this
  · rintro ⟨h1, h2⟩
    exact ⟨_, Zqp hn hx, mem_col.2 h1, Zwb h2⟩
theorem Zr1 {raw : List Cus} {n : List UInt8} (h : n ∈ raw.map Cus.name) : ∃ x ∈ raw, x.name = n := by
  obtain ⟨x, hx, rfl⟩ := List.mem_map.1 h
  exact ⟨x, hx, rfl⟩
theorem Zza {raw : List Cus} (hn : (raw.map Cus.name).Nodup) (hne : [] ∉ raw.map Cus.name) {lk lk' : Lk} (h : Sol raw lk) (h' : Sol raw lk') : lk = lk' := by
  classical
  funext n
  by_cases hd : ∃ x ∈ raw, lk x.name ≠ lk' x.name
  · exfalso
    let S := (raw.map Cus.name).filter fun n => decide (lk n ≠ lk' n)
    have hS : S ≠ [] := by
      obtain ⟨x, hx, hxd⟩ := hd
      intro e
      have : x.name ∈ S := List.mem_filter.2 ⟨List.mem_map.2 ⟨x, hx, rfl⟩, by simpa using hxd⟩
      rw [e] at this
      simp at this
    obtain ⟨m, hm, hmx⟩ := ZvL (R := Path (Za3 raw)) (fun h k => h.trans k) S hS fun a ha hp => by
      have := (List.mem_filter.1 ha).2
      simp only [decide_eq_true_eq] at this
      exact this ((h.loop a hp).trans (h'.loop a hp).symm)
    obtain ⟨hmr, hmd⟩ := List.mem_filter.1 hm
    simp only [decide_eq_true_eq] at hmd
    obtain ⟨x, hx, rfl⟩ := Zr1 hmr
    have hc : ¬ Znu raw x.name := fun hp => hmd ((h.loop _ hp).trans (h'.loop _ hp).symm)
    refine hmd ?_
    rw [h.val x hx hc, h'.val x hx hc]
    refine Zje ⟨(h.out _ hne).trans (h'.out _ hne).symm, fun u hu => ?_⟩
    by_cases hu2 : u ∈ raw.map Cus.name
    · by_cases hu3 : lk u = lk' u
      · exact hu3
      · exact absurd (Path.one ((Zjf hn hx).2 ⟨hu, hu2⟩)) (hmx u (List.mem_filter.2 ⟨hu2, by simpa using hu3⟩))
    · rw [h.out u hu2, h'.out u hu2]
  · by_cases h1 : n ∈ raw.map Cus.name
    · obtain ⟨x, hx, rfl⟩ := Zr1 h1
      by_cases h2 : lk x.name = lk' x.name
      · exact h2
      · exact absurd ⟨x, hx, h2⟩ hd
    · rw [h.out n h1, h'.out n h1]
end Go.Tev.S1
namespace Go.Tev.S1
open Go.Abs Go.Proofs
theorem mget_iff {β : Type} {a : List UInt8} : ∀ {M : List (List UInt8 × β)}, (ZaV BEq.beq a M).isSome = true ↔ a ∈ M.map Prod.fst
  | [] => by simp [ZaV]
  | (k, u) :: r => by
    simp only [ZaV, List.map_cons, List.mem_cons]
    cases e : (a == k) with
    | true => rw [beq_iff_eq] at e; simp [e]
    | false => rw [beq_eq_false_iff_ne] at e; simp only [cond_false]; rw [mget_iff]; simp [e]
theorem Zhs {β : Type} {a : List UInt8} {M : List (List UInt8 × β)} (h : a ∉ M.map Prod.fst) : ZaV BEq.beq a M = none := by
  cases e : ZaV BEq.beq a M with
  | none => rfl
  | some u => exact absurd (mget_iff.1 (by rw [e]; rfl)) h
theorem Zrb (a k : List UInt8) (v : List Val) : ∀ M : Mv, ZaV BEq.beq a (M ++ [(k, v)]) = match ZaV BEq.beq a M with
    | some u => some u
    | none => if a = k then some v else none
  | [] => by
    simp only [List.nil_append, ZaV]
    by_cases e : a = k
    · subst e; simp
    · have e2 : (a == k) = false := by simpa using e
      rw [e2, if_neg e]; rfl
  | (k', u) :: r => by
    have ih := Zrb a k v r
    simp only [List.cons_append, ZaV]
    cases (a == k') with
    | true => rfl
    | false => simpa using ih
theorem ZtX {Sv : Mv} {x : Cus} (h : x.name ∉ Sv.map Prod.fst) (n : List UInt8) : lkM (Zvc Sv x) n = if n = x.name then Zrz (lkM Sv) x else lkM Sv n := by
  unfold Zvc Zrz
  cases e : decide ((Zd7 (lkM Sv) x.val).2 = 0) && decide ((Zak (Zd7 (lkM Sv) x.val).1 : Int) ≤ 2000) with
  | false =>
    simp only [cond_false]
    split
    · rename_i h2; rw [h2]; exact Zhs h
    · rfl
  | true =>
    simp only [cond_true, lkM]
    rw [Zrb]
    split
    · rename_i u hu
      split
      · rename_i h2
        rw [h2, Zhs h] at hu
        cases hu
      · exact hu.symm
    · rename_i hu
      split
      · rfl
      · exact hu.symm
structure Jv (raw : List Cus) (Sv Op : Mv) : Prop where
  opn : ∀ a ∈ Op.map Prod.fst, a ∈ raw.map Cus.name ∧ ¬ Znu raw a
  svn : ∀ a ∈ Sv.map Prod.fst, a ∈ raw.map Cus.name ∧ ¬ Znu raw a ∧ a ∉ Op.map Prod.fst
  clo : ∀ x ∈ raw, ¬ Znu raw x.name → x.name ∉ Op.map Prod.fst → lkM Sv x.name = Zrz (lkM Sv) x ∧ ∀ u ∈ Zbh x.val, u ∉ Op.map Prod.fst
theorem ready_iff {Op : Mv} {x : Cus} : Zco Op x = true ↔ x.name ∈ Op.map Prod.fst ∧ ∀ u ∈ Zbh x.val, u ∉ Op.map Prod.fst := by
  unfold Zco
  rw [Bool.and_eq_true, mget_iff, Bool.not_eq_true', ← Bool.not_eq_true, List.any_eq_true]
  constructor
  · rintro ⟨h1, h2⟩
    refine ⟨h1, fun u hu hm => h2 ?_⟩
    obtain ⟨p, hp, rfl⟩ := List.mem_map.1 (mem_col.2 hu)
    exact ⟨p, hp, mget_iff.2 hm⟩
  · rintro ⟨h1, h2⟩
    refine ⟨h1, ?_⟩
    rintro ⟨p, hp, hm⟩
    exact h2 p.1 (mem_col.1 (List.mem_map.2 ⟨p, hp, rfl⟩)) (mget_iff.1 hm)
theorem Zu5 {raw : List Cus} (hn : (raw.map Cus.name).Nodup) {O : List (List UInt8)} (hO : ∀ a ∈ O, a ∈ raw.map Cus.name ∧ ¬ Znu raw a) (hne : O ≠ []) : ∃ x ∈ raw, x.name ∈ O ∧ ∀ u ∈ Zbh x.val, u ∉ O := by
  obtain ⟨m, hm, hmx⟩ := ZvL (R := Path (Za3 raw)) (fun h k => h.trans k) O hne (fun a ha => (hO a ha).2)
  obtain ⟨x, hx, rfl⟩ := Zr1 (hO m hm).1
  exact ⟨x, hx, hm, fun u hu huO => hmx u huO (.one ((Zjf hn hx).2 ⟨hu, (hO u huO).1⟩))⟩
theorem Jv.step {raw : List Cus} (hne : [] ∉ raw.map Cus.name) {Sv Op : Mv} (J : Jv raw Sv Op) {x : Cus} (hx : x ∈ raw) (hinj : ∀ y ∈ raw, y.name = x.name → y = x) (h : Zco Op x = true) : Jv raw (Zvc Sv x) (rmv x.name Op) := by
  obtain ⟨h1, h2⟩ := ready_iff.1 h
  have hxs : x.name ∉ Sv.map Prod.fst := fun hm => (J.svn _ hm).2.2 h1
  have agree : ∀ y : Cus, (∀ u ∈ Zbh y.val, u ≠ x.name) → Agree (lkM (Zvc Sv x)) (lkM Sv) y.val := fun y hy => by
    refine ⟨?_, fun u hu => ?_⟩
    · rw [ZtX hxs, if_neg]
      intro e
      exact hne (e ▸ (J.opn _ h1).1)
    · rw [ZtX hxs, if_neg (hy u hu)]
  refine ⟨fun a ha => J.opn a (rmv_names.1 ha).1, fun a ha => ?_, fun y hy hc hyo => ?_⟩
  · rcases Zna Sv x a ha with h3 | rfl
    · obtain ⟨g1, g2, g3⟩ := J.svn a h3
      exact ⟨g1, g2, fun h4 => g3 (rmv_names.1 h4).1⟩
    · exact ⟨(J.opn _ h1).1, (J.opn _ h1).2, fun h4 => (rmv_names.1 h4).2 rfl⟩
  · by_cases e : y.name = x.name
    · have := hinj y hy e
      subst this
      refine ⟨?_, fun u hu hm => h2 u hu (rmv_names.1 hm).1⟩
      rw [ZtX hxs, if_pos rfl]
      exact (Zje (agree y fun u hu e => h2 u hu (e ▸ h1))).symm
    · obtain ⟨g1, g2⟩ := J.clo y hy hc (fun hm => hyo (rmv_names.2 ⟨hm, e⟩))
      refine ⟨?_, fun u hu hm => g2 u hu (rmv_names.1 hm).1⟩
      rw [ZtX hxs, if_neg e, g1]
      exact (Zje (agree y fun u hu e => g2 u hu (e ▸ h1))).symm
theorem Jv.done {raw : List Cus} {Sv : Mv} (J : Jv raw Sv []) : Sol raw (lkM Sv) := by
  refine ⟨fun n hn => Zhs fun hm => hn (J.svn n hm).1, fun n hc => Zhs fun hm => (J.svn n hm).2.1 hc, fun x hx hc => (J.clo x hx hc (by simp)).1⟩
theorem YdZ {raw : List Cus} (hn : (raw.map Cus.name).Nodup) {x : Cus} (hx : x ∈ raw) : ∀ y ∈ raw, y.name = x.name → y = x := by
  intro y hy e
  obtain ⟨i, hi, rfl⟩ := List.mem_iff_getElem.1 hx
  obtain ⟨j, hj, rfl⟩ := List.mem_iff_getElem.1 hy
  have := (List.getElem_inj hn (i := j) (j := i) (h₀ := by simpa using hj) (h₁ := by simpa using hi)).1 (by simpa using e)
  subst this; rfl
theorem ZuF {raw : List Cus} (hn : (raw.map Cus.name).Nodup) (hne : [] ∉ raw.map Cus.name) : ∀ (n : Nat) (Sv Op : Mv), Jv raw Sv Op → Op.length ≤ n → Sol raw (lkM (ZhL raw n Sv Op)) := by
  intro n
  induction n with
  | zero =>
    intro Sv Op J h
    have : Op = [] := List.eq_nil_of_length_eq_zero (by omega)
    subst this
    exact J.done
  | succ n ih =>
    intro Sv Op J h
    simp only [ZhL]
    cases hf : raw.find? (Zco Op) with
    | some x =>
      have hr := List.find?_some hf
      have hx := List.mem_of_find?_eq_some hf
      have hlt := YaL (ready_iff.1 hr).1
      exact ih _ _ (J.step hne hx (YdZ hn hx) hr) (by omega)
    | none =>
      have : Op = [] := by
        apply Classical.byContradiction
        intro ho
        obtain ⟨x, hx, h1, h2⟩ := Zu5 hn (O := Op.map Prod.fst) J.opn (by simpa using ho)
        have := (List.find?_eq_none.1 hf) x hx
        exact this (ready_iff.2 ⟨h1, h2⟩)
      subst this
      exact J.done
theorem open0_names {raw : List Cus} {a : List UInt8} : a ∈ (ZjT raw).map Prod.fst ↔ a ∈ raw.map Cus.name ∧ ¬ Znu raw a := by
  unfold ZjT Znx Zbb Znu
  simp only [List.mem_map, List.mem_filter, decide_eq_true_eq, Prod.mk.injEq, not_exists, not_and]
  constructor
  · rintro ⟨p, ⟨⟨x, hx, rfl⟩, h⟩, rfl⟩
    exact ⟨⟨x, hx, rfl⟩, fun hp => h x hx rfl hp⟩
  · rintro ⟨⟨x, hx, rfl⟩, h⟩
    refine ⟨(x.name, x.val), ⟨⟨x, hx, rfl⟩, fun y hy e hp => h ?_⟩, rfl⟩
    have e : y.name = x.name := e
    rw [← e]; exact hp
theorem Znv {raw : List Cus} (hn : (raw.map Cus.name).Nodup) (hne : [] ∉ raw.map Cus.name) : Sol raw (lkM (ZcC raw)) := by
  refine ZuF hn hne _ _ _ ⟨fun a ha => open0_names.1 ha, fun a ha => by simp at ha, fun x hx hc ho => absurd (open0_names.2 ⟨List.mem_map.2 ⟨x, hx, rfl⟩, hc⟩) ho⟩ (Nat.le_refl _)
theorem YcU {raw : List Cus} (hn : (raw.map Cus.name).Nodup) {Sv : Mv} (h : ∀ n, n ∉ raw.map Cus.name → lkM Sv n = none) (n : List UInt8) : lkC (Ze7 raw Sv) n = lkM Sv n := by
  by_cases hr : n ∈ raw.map Cus.name
  · clear h
    induction raw with
    | nil => simp at hr
    | cons y r ih =>
      rw [List.map_cons, List.nodup_cons] at hn
      have hcons : Ze7 (y :: r) Sv = (match ZaV BEq.beq y.name Sv with
        | some v => ⟨y.name, v⟩ :: Ze7 r Sv
        | none => Ze7 r Sv) := by
        unfold Ze7
        rw [List.filterMap_cons]
        cases ZaV BEq.beq y.name Sv <;> rfl
      rw [hcons]
      by_cases e : n = y.name
      · subst e
        cases hm : ZaV BEq.beq y.name Sv with
        | some v =>
          simp only [lkC]
          rw [if_pos (by simp)]
          exact hm.symm
        | none =>
          have : ∀ r : List Cus, y.name ∉ r.map Cus.name → lkC (Ze7 r Sv) y.name = none := by
            intro r
            induction r with
            | nil => intro _; rfl
            | cons z r ih2 =>
              intro hz
              simp only [List.map_cons, List.mem_cons, not_or] at hz
              have hcons : Ze7 (z :: r) Sv = (match ZaV BEq.beq z.name Sv with
                | some v => ⟨z.name, v⟩ :: Ze7 r Sv
                | none => Ze7 r Sv) := by
                unfold Ze7
                rw [List.filterMap_cons]
                cases ZaV BEq.beq z.name Sv <;> rfl
              rw [hcons]
              cases ZaV BEq.beq z.name Sv with
              | none => exact ih2 hz.2
              | some v =>
                simp only [lkC]
                rw [if_neg (by simpa using fun e => hz.1 e.symm)]
                exact ih2 hz.2
          simp only
          rw [this r hn.1]
          exact hm.symm
      · rw [List.map_cons, List.mem_cons] at hr
        have hr' := hr.resolve_left e
        cases hm : ZaV BEq.beq y.name Sv with
        | some v =>
          simp only [lkC]
          rw [if_neg (by simpa using fun h => e h.symm)]
          exact ih hn.2 hr'
        | none => exact ih hn.2 hr'
  · rw [h n hr]
    cases e : lkC (Ze7 raw Sv) n with
    | none => rfl
    | some v =>
      exfalso
      have : ∀ c : List Cus, lkC c n = some v → n ∈ c.map Cus.name := by
        intro c
        induction c with
        | nil => intro h; cases h
        | cons y c ih =>
          intro h
          simp only [lkC] at h
          split at h
          · rename_i h2; rw [beq_iff_eq] at h2; simp [h2]
          · exact List.mem_cons_of_mem _ (ih h)
      have := this _ e
      obtain ⟨x, hx, rfl⟩ := List.mem_map.1 this
      unfold Ze7 at hx
      obtain ⟨y, hy, hxy⟩ := List.mem_filterMap.1 hx
      cases hm : ZaV BEq.beq y.name Sv with
      | none => rw [hm] at hxy; cases hxy
      | some u => rw [hm] at hxy; cases hxy; exact hr (List.mem_map.2 ⟨y, hy, rfl⟩)
def Srt (c : List Cus) : Prop := c.Pairwise fun a b => Op.bytesLess a.name b.name = true
end Go.Tev.S1
namespace Go.Tev.S1
open Go.Abs Go.Proofs
mutual
def ZsD : DV → DV → Bool
  | .bool a, .bool b => a == b
  | .int k a, .int m b => decide (k = m) && a == b
  | .str a, .str b => a == b
  | .slc a, .slc b => Zr7 a b
  | .agg a, .agg b => Zr7 a b
  | _, _ => false
def Zr7 : List DV → List DV → Bool
  | [], [] => true
  | a :: l, b :: m => ZsD a b && Zr7 l m
  | _, _ => false
end
mutual
theorem ZxZ : ∀ a b, ZsD a b = true → a = b
  | .bool a, .bool b, h => by simp only [ZsD, beq_iff_eq] at h; rw [h]
  | .int k a, .int m b, h => by simp only [ZsD, Bool.and_eq_true, beq_iff_eq, decide_eq_true_eq] at h; rw [h.1, h.2]
  | .str a, .str b, h => by simp only [ZsD, beq_iff_eq] at h; rw [h]
  | .slc a, .slc b, h => by simp only [ZsD] at h; rw [Zox a b h]
  | .agg a, .agg b, h => by simp only [ZsD] at h; rw [Zox a b h]
  | .bool _, .int .., h | .bool _, .str _, h | .bool _, .slc _, h | .bool _, .agg _, h | .bool _, .nilp, h | .bool _, .nilm, h | .bool _, .nilf, h | .bool _, .nili, h | .bool _, .fmap _, h | .bool _, .fn .., h | .bool _, .tup _, h | .bool _, .iface .., h => by simp [ZsD] at h
  | .int .., .bool _, h | .int .., .str _, h | .int .., .slc _, h | .int .., .agg _, h | .int .., .nilp, h | .int .., .nilm, h | .int .., .nilf, h | .int .., .nili, h | .int .., .fmap _, h | .int .., .fn .., h | .int .., .tup _, h | .int .., .iface .., h => by simp [ZsD] at h
  | .str _, .bool _, h | .str _, .int .., h | .str _, .slc _, h | .str _, .agg _, h | .str _, .nilp, h | .str _, .nilm, h | .str _, .nilf, h | .str _, .nili, h | .str _, .fmap _, h | .str _, .fn .., h | .str _, .tup _, h | .str _, .iface .., h => by simp [ZsD] at h
  | .slc _, .bool _, h | .slc _, .int .., h | .slc _, .str _, h | .slc _, .agg _, h | .slc _, .nilp, h | .slc _, .nilm, h | .slc _, .nilf, h | .slc _, .nili, h | .slc _, .fmap _, h | .slc _, .fn .., h | .slc _, .tup _, h | .slc _, .iface .., h => by simp [ZsD] at h
  | .agg _, .bool _, h | .agg _, .int .., h | .agg _, .slc _, h | .agg _, .str _, h | .agg _, .nilp, h | .agg _, .nilm, h | .agg _, .nilf, h | .agg _, .nili, h | .agg _, .fmap _, h | .agg _, .fn .., h | .agg _, .tup _, h | .agg _, .iface .., h => by simp [ZsD] at h
  | .nilp, _, h | .nilm, _, h | .nilf, _, h | .nili, _, h | .fmap _, _, h | .fn .., _, h | .tup _, _, h | .iface .., _, h => by simp [ZsD] at h
theorem Zox : ∀ a b, Zr7 a b = true → a = b
  | [], [], _ => rfl
  | a :: l, b :: m, h => by
    simp only [Zr7, Bool.and_eq_true] at h
    rw [ZxZ a b h.1, Zox l m h.2]
  | [], _ :: _, h => by simp [Zr7] at h
  | _ :: _, [], h => by simp [Zr7] at h
end
def tA (k : Int) (t : List UInt8) (l : List Val) : Val := .mk ⟨k, t, 0, [], false⟩ l
def nA (n : Int) : Val := .mk ⟨10, [], n, [], true⟩ []
def cA (n : UInt8) (l : List Val) : Cus := ⟨[45, 45, n], l⟩
def rawA : List Cus := [cA 97 [tA 2 [118, 97, 114] [tA 1 [45, 45, 98] []]], cA 98 [nA 2000], cA 99 [tA 2 [118, 97, 114] [tA 1 [45, 45, 99] [], tA 18 [] [], tA 13 [] [], nA 1000]]]
def outA : List Cus := [cA 97 [nA 2000], cA 98 [nA 2000]]
def lkA : Lk := fun n => if n = [45, 45, 97] ∨ n = [45, 45, 98] then some [nA 2000] else none
theorem Zmj : (rawA.map Cus.name).Nodup := by decide
theorem usA : ∀ x ∈ rawA, Zbh x.val = if x.name = [45, 45, 97] then [[45, 45, 98]] else if x.name = [45, 45, 98] then [] else [[45, 45, 99]] := by
  intro x hx
  simp only [rawA, List.mem_cons, List.not_mem_nil, or_false] at hx
  rcases hx with rfl | rfl | rfl <;> rfl
theorem Ye2 : ∀ x ∈ rawA, x.name ≠ [45, 45, 99] → Zrz lkA x = some [nA 2000] := by
  have h1 : ZeA lkA [nA 2000] = some 1 := by
    simp [ZeA, nA, Val.ref, Val.tok, Val.l, ZkO]
  have h2 : Zeg lkA [nA 2000] = [nA 2000] := by
    simp [Zeg, nA, Val.ref, Val.tok, Val.l]
  have h0 : Ze2 [118, 97, 114] = [118, 97, 114] := by decide
  have h5 : (Zaw [tA 1 [45, 45, 98] []]).1 = [45, 45, 98] := by rfl
  have h6 : lkA [45, 45, 98] = some [nA 2000] := by rfl
  have h3 : ZeA lkA [tA 2 [118, 97, 114] [tA 1 [45, 45, 98] []]] = some 1 := by
    rw [ZcH, Zc9, Zs0 (x := [nA 2000]) rfl (h5 ▸ h6)]; rfl
  have h4 : Zeg lkA [tA 2 [118, 97, 114] [tA 1 [45, 45, 98] []]] = [nA 2000] := by
    rw [Zeg, Zeg, if_pos (by rfl), show (Zaw (tA 2 [118, 97, 114] [tA 1 [45, 45, 98] []]).l).1 = [45, 45, 98] from h5, h6]; rfl
  have hc : ZaE [nA 2000] = 0 := by decide
  intro x hx hn
  simp only [rawA, List.mem_cons, List.not_mem_nil, or_false] at hx
  rcases hx with rfl | rfl | rfl
  · simp only [Zrz, cA, Zd7, h3, h4, hc, if_true]; rw [if_neg (by omega)]; rfl
  · simp only [Zrz, cA, Zd7, h1, h2, hc, if_true]; rw [if_neg (by omega)]; rfl
  · exact absurd rfl hn
theorem YeS {a b : List UInt8} (h : Edge (Za3 rawA) a b) : ∃ x ∈ rawA, x.name = a ∧ b ∈ Zbh x.val := by
  obtain ⟨u, h1, h2, h3⟩ := h
  have : a ∈ (Za3 rawA).map Prod.fst := mget_iff.1 (by rw [h1]; rfl)
  have : a ∈ rawA.map Cus.name := by simpa [Za3] using this
  obtain ⟨x, hx, rfl⟩ := List.mem_map.1 this
  exact ⟨x, hx, rfl, ((Zjf Zmj hx).1 ⟨u, h1, h2, h3⟩).1⟩
theorem edA {a b : List UInt8} (h : Edge (Za3 rawA) a b) : a = [45, 45, 97] ∧ b = [45, 45, 98] ∨ a = [45, 45, 99] ∧ b = [45, 45, 99] := by
  obtain ⟨x, hx, rfl, hb⟩ := YeS h
  rw [usA x hx] at hb
  simp only [rawA, List.mem_cons, List.not_mem_nil, or_false] at hx
  rcases hx with rfl | rfl | rfl
  · left; simpa [cA] using hb
  · simp [cA] at hb
  · right; simpa [cA] using hb
theorem Yfl {a b : List UInt8} (h : Path (Za3 rawA) a b) : a = [45, 45, 97] ∧ b = [45, 45, 98] ∨ a = [45, 45, 99] ∧ b = [45, 45, 99] := by
  induction h with
  | one h => exact edA h
  | step h t ih =>
    rcases edA h with ⟨rfl, rfl⟩ | ⟨rfl, rfl⟩
    · rcases ih with ⟨h, _⟩ | ⟨h, _⟩ <;> simp at h
    · rcases ih with ⟨h, _⟩ | ⟨_, h⟩
      · simp at h
      · exact .inr ⟨rfl, h⟩
theorem solA : Sol rawA lkA where
  out n hn := by
    unfold lkA
    rw [if_neg]
    rintro (rfl | rfl) <;> exact hn (by decide)
  loop n hn := by
    unfold lkA
    rw [if_neg]
    rintro (rfl | rfl) <;> rcases Yfl hn with ⟨h1, h2⟩ | ⟨h1, h2⟩ <;> first | (simp at h1; done) | (simp at h2; done)
  val x hx hn := by
    by_cases h3 : x.name = [45, 45, 99]
    · have hm : x.name ∈ Zbh x.val := by
        rw [usA x hx, h3]
        decide
      exact absurd (.one ((Zjf Zmj hx).2 ⟨hm, List.mem_map.2 ⟨x, hx, rfl⟩⟩)) hn
    · rw [Ye2 x hx h3]
      simp only [rawA, List.mem_cons, List.not_mem_nil, or_false] at hx
      rcases hx with rfl | rfl | rfl
      · rfl
      · rfl
      · exact absurd rfl h3
theorem Ydg : Ze7 rawA (ZcC rawA) = outA := by
  have h : lkM (ZcC rawA) = lkA := Zza Zmj (by decide) (Znv Zmj (by decide)) solA
  unfold Ze7
  have e : ∀ n, ZaV BEq.beq n (ZcC rawA) = lkA n := fun n => by rw [← h]; rfl
  simp only [e]
  rfl
def K8 : Zaa := fun f args h => bif Nat.beq f 43 then (match args, h with
  | [.d v], [] => bif ZsD v (d44 rawA) then some (.d (.slc (outA.map Cus.enc)), []) else none
  | _, _ => none) else none
theorem YeW : ZaY Tryz.prog K8 := by
  intro f args h r h' he
  unfold K8 at he
  cases hb : Nat.beq f 43 with
  | false => rw [hb] at he; cases he
  | true =>
    rw [hb, cond_true] at he
    have := Nat.eq_of_beq_eq_true hb
    subst this
    split at he
    · rename_i v
      cases hv : ZsD v (d44 rawA) with
      | false => rw [hv] at he; cases he
      | true =>
        rw [hv, cond_true] at he
        have := ZxZ _ _ hv
        subst this
        cases he
        rw [← Ydg]
        exact Zq1 rawA Zmj ⟨by decide, by decide⟩
    · cases he
set_option maxRecDepth 100000 in
theorem al8 : ZjJ C K8 80 8 [] [] = some (.d (.bool true), []) := by kernel_rfl
noncomputable def K2 (K : Zaa) : Zaa := fun f args h => bif Nat.beq f 8 then (match args, h with
  | [], [] => some (.d (.bool true), [])
  | _, _ => none) else K f args h
theorem YeC {K : Zaa} (hK : ZaY Tryz.prog K) : ZaY Tryz.prog (K2 K) := by
  intro f args h r h' he
  unfold K2 at he
  cases hb : Nat.beq f 8 with
  | false => rw [hb] at he; exact hK _ _ _ _ _ he
  | true =>
    rw [hb, cond_true] at he
    have := Nat.eq_of_beq_eq_true hb
    subst this
    split at he
    · cases he
      exact ZhV Zae mixed YeW 80 _ _ _ _ _ al8
    · cases he
theorem Yb6 {K : Zaa} (hK : Zcu K) : Zcu (K2 K) := by
  intro f args h hf
  unfold K2
  rw [show Nat.beq f 8 = false from beq_ne.2 fun e => hf (by subst e; decide)]
  exact hK f args h hf
theorem YbE {K : Zaa} : Zaj U (Zab C (K2 K)) 8 ⟨true, [], [4], fun _ => some true⟩ := by
  intro vs a r ds g hp hd hs hr
  have hp : Zux U [] vs = some a := hp
  cases vs with
  | cons v vs => simp [Zux, Zc0] at hp
  | nil =>
    simp only [dvL, Option.some.injEq] at hd
    subst hd
    have hr : U.inj 4 = some g := hr
    have hs : some true = some r := hs
    refine ⟨_, ok.inj _ _ r hr, ?_⟩
    unfold Zb8
    have : Zab C (K2 K) 8 [] [] = some (.d (.bool true), []) := Zf0 rfl
    cases hs
    simp only [List.map_nil, this]
    rfl
end Go.Tev.S1
namespace Go.Tev.S1
open Go.Abs Go.Proofs
abbrev T5b : Type := (List Cus) → Option Bool
abbrev T5c : Type := (List Cus) → Option (List Cus)
abbrev T5d : Type := (List Val) → Option Int
abbrev P5b (K : Zaa) (t : T5b) : Prop := Zaj U (Zab C K) 42 ⟨true, [.ty 23], [4], t⟩
abbrev P5c (K : Zaa) (t : T5c) : Prop := Zaj U (Zab C K) 43 ⟨true, [.ty 23], [23], t⟩
abbrev P5d (K : Zaa) (t : T5d) : Prop := Zaj U (Zab C K) 33 ⟨true, [.ty 22], [28], t⟩
def Zev (qb : T5b) (qc : T5c) (qd : T5d) {R : Type} (n : Nat) (a0 : List Cus) (a13 : List Cus) (a14 : Int) (kx0 : List Cus → Int → Option R) (kr : List Cus → Int → Option R) (y2 : List Cus) (y3 : Int) (y15 : Int) (k : List Cus → Int → Int → Option R) : Option R :=
  cond (decide (y15 < a14))
  (Option.bind (ZeS a13 y15) fun x7 =>
  Option.bind (qd x7.val) fun r8 =>
  cond (r8 != (0 : Int))
  (kr [] r8)
  (k y2 y3 (IntKind.i64.wrap (y15 + (1 : Int)))))
  (kx0 y2 y3)
def Zhn (qb : T5b) (qc : T5c) (qd : T5d) (n : Nat) (p0 : List Cus) : Option ((List Cus) × Int) :=
  cond (decide ((p0.length : Int) > (64 : Int)))
  (some ([], (4 : Int)))
  (Option.bind (qb p0) fun r1 =>
  cond (!r1)
  (some ([], (8 : Int)))
  (ZoY (Zev qb qc qd n p0 p0 (p0.length : Int) (fun z2 z3 =>
  Option.bind (qc p0) fun r4 =>
  some (r4, (0 : Int))) (fun z5 z6 =>
  some (z5, z6))) n [] (0 : Int) (0 : Int)))
abbrev Zqs (qb : T5b) (qc : T5c) (qd : T5d) : List (Nat × TCall X) := [(42, ⟨true, [.ty 23], [4], qb⟩), (43, ⟨true, [.ty 23], [23], qc⟩), (33, ⟨true, [.ty 22], [28], qd⟩)]
noncomputable abbrev Zcn (qb : T5b) (qc : T5c) (qd : T5d) : Cx := ⟨C, U, Zqs qb qc qd, [], fun _ => []⟩
theorem ZoN : okF (C.ann 16) Tryz.f16 1 = true := by kernel_rfl
abbrev vars_Solve_L0_D : LD := ⟨0, [.val 0 23, .val 13 23, .val 14 2], [.val 2 23, .val 3 2, .val 15 2], [(0, [.val 2 23, .val 3 2])], [.val 2 23, .val 3 28]⟩
abbrev Zdg (qb : T5b) (qc : T5c) (qd : T5d) (n : Nat) : LG U (PX X [23, 28]) vars_Solve_L0_D := fun c kx kr y k => Zev qb qc qd n c.1 c.2.1 c.2.2.1 (fun z0 z1 => kx 0 (z0, z1, ())) (fun z0 z1 => kr (z0, z1, ())) y.1 y.2.1 y.2.2.1 (fun z0 z1 z2 => k (z0, z1, z2, ()))
noncomputable abbrev Zdf (qb : T5b) (qc : T5c) (qd : T5d) (n : Nat) : ZeT (Zcn qb qc qd) (PX X [23, 28]) := [(0, Zfk U vars_Solve_L0_D (Zdg qb qc qd n) n)]
theorem ZlW (qb : T5b) (qc : T5c) (qd : T5d) (n : Nat) : ∀ c kx kr y k1, evL (Zcn qb qc qd) (ann 16) (Zdf qb qc qd n) 0 (Zar (Zac Tryz.f16) 0) (ZeE U vars_Solve_L0_D kx kr k1) (encS U vars_Solve_L0_D.cap vars_Solve_L0_D.din c y) = Zdg qb qc qd n c (fun i z => kx i c z) kr y (fun y2 => k1 c y2) := by
  intro c kx kr y k1
  kernel_rfl
theorem Zrp (qb : T5b) (qc : T5c) (qd : T5d) (n : Nat) : ∀ a, fnL (Zcn qb qc qd) true 16 Tryz.f16 [.ty 23] [23, 28] (Zdf qb qc qd n) a = Zhn qb qc qd n a := by
  intro a
  kernel_rfl
theorem Zis {K : Zaa} (qb : T5b) (qc : T5c) (qd : T5d) (h0 : P5b K qb) (h1 : P5c K qc) (h2 : P5d K qd) : CallsOk (Zcn qb qc qd) (Zab C K) :=
  ⟨(Zag h0 (Zag h1 (Zag h2 ZaA))), Zaz⟩
theorem Zjc {K : Zaa} (qb : T5b) (qc : T5c) (qd : T5d) (h0 : P5b K qb) (h1 : P5c K qc) (h2 : P5d K qd) (n : Nat) (b0 : Base) (bn0 : b0.nr ≤ 0) : Law (Zcn qb qc qd) b0 (Zab C K) (ann 16) n (Zar (Zac Tryz.f16) 0) (Zfk U vars_Solve_L0_D (Zdg qb qc qd n) n) :=
  Zda (x := Zcn qb qc qd) (id := 0) ok (Zis qb qc qd h0 h1 h2) (sums := Zdf qb qc qd n) (Zau (show Zaq 0 (Zar (Zac Tryz.f16) 0) = [] by kernel_rfl)) vars_Solve_L0_D bn0 (Zdg qb qc qd n) (ZlW qb qc qd n)
theorem Zkt {K : Zaa} (hK : ∀ args h, K 16 args h = none) (qb : T5b) (qc : T5c) (qd : T5d) (h0 : P5b K qb) (h1 : P5c K qc) (h2 : P5d K qd) (t : PX X (AK.tys [.ty 23]) → Option (PX X [23, 28])) (h : ∀ a r, t a = some r → ∃ n, Zhn qb qc qd n a = some r) : Zaj U (Zab C K) 16 ⟨true, [.ty 23], [23, 28], t⟩ := by
  refine Zav (x := Zcn qb qc qd) (ak := [.ty 23]) (rts := [23, 28]) (dir := true) ok (Zis qb qc qd h0 h1 h2) hK Tryz.func16 ZoN fun a r hr => ?_
  obtain ⟨n, hn⟩ := h a r hr
  exact ⟨n, Zdf qb qc qd n, (Zbm (ids := [0]) (by kernel_rfl) (by decide) (fun i hi => by
    simp only [List.mem_cons, List.not_mem_nil, or_false] at hi
    rcases hi with rfl
    · exact Zbk (c2 := Zar (Zac Tryz.f16) 0) (by kernel_rfl) (by kernel_rfl) (Zjc qb qc qd h0 h1 h2 _ _ (Nat.le_refl _))
    )), (Zrp qb qc qd n a).trans hn⟩
end Go.Tev.S1
namespace Go.Tev.S1
open Go.Abs Go.Proofs
theorem Zq3 {c : List Cus} (h : Srt c) : (c.map Cus.name).Nodup := by
  unfold List.Nodup
  rw [List.pairwise_map]
  exact h.imp fun {a b} hab e => by rw [e, Zic] at hab; cases hab
theorem ZsH : ∀ {p : Option (List UInt8)} {c : List Cus}, namL p c = true → Srt c
  | _, [], _ => List.Pairwise.nil
  | p, y :: c, h => by
    obtain ⟨_, h2⟩ := ZlC h
    exact List.pairwise_cons.2 ⟨fun x hx => ZxJ h2 x hx, ZsH h2⟩
theorem Ya6 : ∀ {p : Option (List UInt8)} {c : List Cus}, namL p c = true → [] ∉ c.map Cus.name
  | _, [], _ => by simp
  | p, y :: c, h => by
    have h1 : ZbT y.name = true := by
      rw [namL.eq_def] at h
      simp only [Bool.and_eq_true] at h
      exact h.1.1
    obtain ⟨_, h2⟩ := ZlC h
    rw [List.map_cons, List.mem_cons]
    rintro (h3 | h3)
    · exact Zrs h1 h3.symm
    · exact Ya6 h2 h3
def ZsN : List Cus → Int
  | [] => 0
  | v :: r => if ZaE v.val = 0 then ZsN r else ZaE v.val
open Classical in
noncomputable def Zkn (raw : List Cus) : List Cus × Int := if raw.length > 64 then ([], 4) else if namL none raw = false then ([], 8) else if ZsN raw = 0 then (Ze7 raw (ZcC raw), 0) else ([], ZsN raw)
noncomputable def ZpV (raw : List Cus) : Option (List Cus × Int) := if ZhI raw then some (Zkn raw) else none
theorem ZxT {raw : List Cus} (h : ZhI raw) : ZpV raw = some (Zkn raw) := if_pos h
theorem Yc7 {R : Type} (z : Int → Option R) (k : Option R) (l : List Cus) : Zmm (fun (_ : Unit) v => if ZaE v.val = 0 then .inl () else .inr (z (ZaE v.val))) (fun _ => k) l () = if ZsN l = 0 then k else z (ZsN l) := by
  induction l with
  | nil => rfl
  | cons v l ih =>
    simp only [Zmm]
    by_cases h : ZaE v.val = 0
    · have e : ZsN (v :: l) = ZsN l := by rw [ZsN, if_pos h]
      rw [if_pos h, e]; exact ih
    · have e : ZsN (v :: l) = ZaE v.val := by rw [ZsN, if_neg h]
      rw [if_neg h, e, if_neg h]
theorem ZvK {raw : List Cus} (hok : ZhI raw) {v : Cus} (hv : v ∈ raw) : ZiV v.val = some (ZaE v.val) := by
  have hB : B = 2 ^ 36 := rfl
  have hV : V = 2 ^ 24 := rfl
  exact ZeD (Nat.le_trans (hok.2 v hv) (by rw [hB, hV]; decide))
theorem Zsz (raw : List Cus) (hok : ZhI raw) : Zhn Zqd ZlK ZiV (raw.length + 1) raw = some (Zkn raw) := by
  unfold Zhn Zkn
  by_cases h1 : raw.length > 64
  · have : decide ((raw.length : Int) > 64) = true := by simp; omega
    rw [this, if_pos h1]; rfl
  · have : decide ((raw.length : Int) > 64) = false := by simp; omega
    rw [this, if_neg h1]
    simp only [cond_false, ZqJ hok.1, Option.bind_some]
    cases h2 : namL none raw with
    | false => rfl
    | true =>
      simp only [Bool.not_true, cond_false]
      rw [if_neg (by decide)]
      refine (Zhv raw (fun (_ : Unit) => ([] : List Cus)) (fun _ => (0 : Int)) (fun _ v => if ZaE v.val = 0 then .inl () else .inr (some (([] : List Cus), ZaE v.val))) (fun _ => some (Ze7 raw (ZcC raw), (0 : Int))) (fun i b => True) ?_ ?_ ?_ () trivial _ (Nat.lt_succ_self _)).trans ?_
      · intro i b v k hv hlt hb
        have hi : IntKind.i64.wrap ((i : Int) + 1) = ((i + 1 : Nat) : Int) := Za7 (by omega)
        simp only [Zev, dlt hlt, cond_true, Zbg hv, Option.bind_some, ZvK hok (List.mem_of_getElem? hv), hi]
        by_cases h3 : ZaE v.val = 0
        · have e : (ZaE v.val != 0) = false := by simpa using h3
          rw [if_pos h3, e]; rfl
        · have e : (ZaE v.val != 0) = true := by simpa using h3
          rw [if_neg h3, e]; rfl
      · intro i b v b' _ _ _; trivial
      · intro b k hb
        simp only [Zev, Zpk, cond_false, Zvl (Zq3 (ZsH h2)) hok, Option.bind_some]
      · rw [Yc7 (fun e => some (([] : List Cus), e))]
        split <;> rfl
structure Dn (raw : List Cus) (c : List Cus) : Prop where
  ok : ZhI raw
  le : raw.length ≤ 64
  nam : namL none raw = true
  err : ZsN raw = 0
  eq : c = Ze7 raw (ZcC raw)
theorem YeF {raw : List Cus} (hok : ZhI raw) (h : (Zkn raw).2 = 0) : Dn raw (Zkn raw).1 := by
  unfold Zkn at h ⊢
  split
  · rename_i h1; rw [if_pos h1] at h; cases h
  · rename_i h1
    rw [if_neg h1] at h
    split
    · rename_i h2; rw [if_pos h2] at h; cases h
    · rename_i h2
      rw [if_neg h2] at h
      split
      · rename_i h3; exact ⟨hok, by omega, by simpa using h2, h3, rfl⟩
      · rename_i h3; rw [if_neg h3] at h; exact absurd h h3
theorem Zrj : ∀ {raw : List Cus}, ZsN raw = 0 → ∀ x ∈ raw, ZaE x.val = 0
  | [], _, x, hx => by cases hx
  | v :: r, h, x, hx => by
    rw [ZsN] at h
    split at h
    · rename_i h1
      rcases List.mem_cons.1 hx with rfl | hx
      · exact h1
      · exact Zrj h x hx
    · rename_i h1; exact absurd h h1
theorem Zvo (raw : List Cus) : OkS (ZcC raw) := by
  have okS : ∀ (n : Nat) (Sv Op : Mv), OkS Sv → OkS (ZhL raw n Sv Op) := by
    intro n
    induction n with
    | zero => intro Sv Op h; exact h
    | succ n ih =>
      intro Sv Op h
      simp only [ZhL]
      split
      · exact ih _ _ (Zx0 h _)
      · exact h
  exact okS _ [] (ZjT raw) fun p hp => by simp at hp
theorem Zxa : ∀ {p : Option (List UInt8)} {q : List UInt8} {l : List Cus}, (∀ q0, p = some q0 → Op.bytesLess q0 q = true) → namL (some q) l = true → namL p l = true
  | p, q, [], _, _ => by cases p <;> rfl
  | p, q, v :: r, h, h2 => by
    rw [namL.eq_def] at h2 ⊢
    simp only [Bool.and_eq_true] at h2 ⊢
    refine ⟨⟨h2.1.1, ?_⟩, h2.2⟩
    cases p with
    | none => rfl
    | some q0 => exact Zjg (h q0 rfl) h2.1.2
theorem Ztl {Sv : Mv} : ∀ {p : Option (List UInt8)} {raw : List Cus}, namL p raw = true → namL p (Ze7 raw Sv) = true
  | p, [], h => h
  | p, y :: r, h => by
    have h0 := h
    rw [namL.eq_def] at h
    simp only [Bool.and_eq_true] at h
    have ih := Ztl (Sv := Sv) h.2
    have hcons : Ze7 (y :: r) Sv = (match ZaV BEq.beq y.name Sv with
        | some v => ⟨y.name, v⟩ :: Ze7 r Sv
        | none => Ze7 r Sv) := by
      unfold Ze7
      rw [List.filterMap_cons]
      cases ZaV BEq.beq y.name Sv <;> rfl
    rw [hcons]
    cases ZaV BEq.beq y.name Sv with
    | none =>
      refine Zxa (fun q0 hq => ?_) ih
      subst hq
      exact h.1.2
    | some v =>
      rw [namL.eq_def]
      simp only [Bool.and_eq_true]
      exact ⟨h.1, ih⟩
theorem YcX {lk : Lk} {x : Cus} {v : List Val} (h : Zrz lk x = some v) : Zd7 lk x.val = (v, 0) ∧ Zak v ≤ 2000 := by
  unfold Zrz at h
  cases hb : decide ((Zd7 lk x.val).2 = 0) && decide ((Zak (Zd7 lk x.val).1 : Int) ≤ 2000) with
  | false => rw [hb] at h; cases h
  | true =>
    rw [hb, cond_true] at h
    simp only [Bool.and_eq_true, decide_eq_true_eq] at hb
    cases h
    exact ⟨Prod.ext rfl hb.1, by omega⟩
theorem ZtN {lk : Lk} {l v : List Val} (h : Zd7 lk l = (v, 0)) : ZaE v = 0 := by
  unfold Zd7 at h
  split at h
  · cases h
  · split at h
    · cases h
    · split at h
      · rename_i h1
        cases h
        exact h1
      · rename_i h1
        simp only [Prod.mk.injEq] at h
        exact absurd h.2 h1
section
variable {raw c : List Cus} (D : Dn raw c)
include D
theorem Dn.nd : (raw.map Cus.name).Nodup := Zq3 (ZsH D.nam)
theorem Dn.sol : Sol raw (lkM (ZcC raw)) := Znv D.nd (Ya6 D.nam)
theorem Dn.lk (n : List UInt8) : lkC c n = lkM (ZcC raw) n := by rw [D.eq]; exact YcU D.nd D.sol.out n
theorem Dn.lkf : lkC c = lkM (ZcC raw) := funext D.lk
theorem Dn.chk {x : Cus} (hx : x ∈ raw) : ZaE x.val = 0 := Zrj D.err x hx
theorem Dn.tot {x : Cus} (hx : x ∈ raw) : Zak x.val ≤ B := Nat.le_trans (D.ok.2 x hx) (by decide)
theorem Dn.val {x : Cus} (hx : x ∈ raw) (h : ¬ Znu raw x.name) : lkC c x.name = Zrz (lkC c) x := by rw [D.lkf]; exact D.sol.val x hx h
theorem Dn.loop {n : List UInt8} (h : Znu raw n) : lkC c n = none := by rw [D.lk]; exact D.sol.loop n h
theorem Dn.mem {y : Cus} (hy : y ∈ c) : (∃ x ∈ raw, x.name = y.name) ∧ lkM (ZcC raw) y.name = some y.val := by
  rw [D.eq] at hy
  unfold Ze7 at hy
  obtain ⟨x, hx, he⟩ := List.mem_filterMap.1 hy
  cases hm : ZaV BEq.beq x.name (ZcC raw) with
  | none => rw [hm] at he; cases he
  | some u =>
    rw [hm] at he
    cases he
    exact ⟨⟨x, hx, rfl⟩, hm⟩
theorem Dn.small {y : Cus} (hy : y ∈ c) : Zak y.val ≤ 2000 ∧ Zbx y.val = false := by
  obtain ⟨p, hp, h⟩ := ZvF (D.mem hy).2
  rw [← h]
  exact Zvo raw p hp
theorem Dn.okc : ZhI c := by
  refine ⟨?_, fun y hy => Nat.le_trans (D.small hy).1 (by decide)⟩
  rw [D.eq]
  exact Nat.le_trans (Zo5 _ _) D.ok.1
theorem Dn.chkv {y : Cus} (hy : y ∈ c) : ZaE y.val = 0 := by
  obtain ⟨⟨x, hx, hn⟩, hl⟩ := D.mem hy
  have h1 : lkC c x.name = some y.val := by rw [D.lk, hn]; exact hl
  have h2 : ¬ Znu raw x.name := fun h => by rw [D.loop h] at h1; cases h1
  rw [D.val hx h2] at h1
  exact ZtN (YcX h1).1
theorem Dn.chkc : Zvq c = 0 := by
  unfold Zvq
  rw [if_neg]
  · have : ∀ l : List Cus, (∀ y ∈ l, y ∈ c) → YaQ l = 0 := by
      intro l
      induction l with
      | nil => intro _; rfl
      | cons y l ih =>
        intro h
        have h1 : Zkh y = false := by
          unfold Zkh
          have hy := h y (by simp)
          rw [D.chkv hy, (D.small hy).2]
          have := (D.small hy).1
          simp; omega
        rw [YaQ, h1]
        exact ih fun z hz => h z (by simp [hz])
    exact this c fun y hy => hy
  · have h1 : c.length ≤ 64 := by rw [D.eq]; exact Nat.le_trans (Zo5 _ _) D.le
    have h2 : namL none c = true := by rw [D.eq]; exact Ztl D.nam
    rintro (h | h)
    · omega
    · rw [h2] at h; cases h
end
end Go.Tev.S1
namespace Go.Tev.S1
open Go.Abs Go.Proofs
theorem A26 : (ann 26).nt = 65 ∧ (ann 26).keep = [0, 1, 4, 5, 6, 7, 8, 10, 11, 19, 37, 48, 57] ∧ (ann 26).take = [6] ∧ (ann 26).heapy = [] ∧ (ann 26).frz = [31, 45] ∧ (ann 26).lend = [] := ⟨rfl, rfl, rfl, rfl, rfl, rfl⟩
noncomputable abbrev B26 : Code := Zac Tryz.f26
noncomputable abbrev ZzD : Code := sq1 B26
noncomputable abbrev ZyL : Code := sq1 (sq2 B26)
noncomputable abbrev Ziw : Code := sq1 (sq2 (sq2 B26))
noncomputable abbrev L26 : Code := inn (inn (sq1 (sq2 (sq2 (sq2 B26)))))
noncomputable abbrev ZhB : Code := sq1 (sq1 L26)
noncomputable abbrev K26 : Code := inn (sq2 L26)
noncomputable abbrev Zgs : Code := sq1 K26
noncomputable abbrev Zgt : Code := sq1 (sq2 K26)
noncomputable abbrev Zw3 : Code := sq1 (sq2 (sq2 K26))
noncomputable abbrev Zwm : Code := sq1 (sq2 (sq2 (sq2 K26)))
noncomputable abbrev Y26 : Code := inn (inn (sq2 (sq2 (sq2 (sq2 K26)))))
noncomputable abbrev Zur : Code := sq1 (sq1 Y26)
noncomputable abbrev M26 : Code := inn (sq1 (sq2 Y26))
noncomputable abbrev ZuG : Code := sq2 (sq2 Y26)
noncomputable abbrev Zk1 : Code := sq1 M26
noncomputable abbrev ZlZ : Code := sq1 (sq1 (sq2 M26))
noncomputable abbrev ZlD : Code := sq1 (cn1 (sq2 (sq1 (sq2 M26))))
noncomputable abbrev ZiL : Code := sq1 (sq2 (sq2 M26))
noncomputable abbrev ZlB : Code := sq1 (cn1 (sq2 (sq2 (sq2 M26))))
noncomputable abbrev Zck : Code := sq2 (cn1 (sq2 (sq2 (sq2 M26))))
noncomputable abbrev Zs3 : Code := sq1 (sq2 (sq2 (sq2 (sq2 B26))))
theorem Ybh : Tryz.f26.body = some (.seq ZzD (.seq ZyL (.seq Ziw (.seq (.block 0 (.loop (.seq (.seq ZhB (.cond (.tmp 19) .skip (.exit 0)))
  (.block 1 (.seq Zgs (.seq Zgt (.seq Zw3 (.seq Zwm (.block 2 (.loop (.seq (.seq Zur (.cond (.tmp 37) .skip (.exit 2)))
    (.seq (.block 3 (.seq Zk1 (.seq (.seq ZlZ (.cond (.tmp 48) (.seq ZlD .ret) .skip)) (.seq ZiL (.cond (.tmp 57) (.seq ZlB Zck) .skip))))) ZuG)))))))))))) (.seq Zs3 .ret))))) := by kernel_rfl
theorem ZzV : okC (C.ann 26) ZzD = true ∧ okC (C.ann 26) ZyL = true ∧ okC (C.ann 26) Zw3 = true ∧ okC (C.ann 26) Zwm = true ∧ okC (C.ann 26) Zur = true ∧ okC (C.ann 26) ZuG = true ∧ okC (C.ann 26) Zk1 = true ∧ okC (C.ann 26) ZlZ = true ∧ okC (C.ann 26) ZlD = true ∧ okC (C.ann 26) ZiL = true ∧ okC (C.ann 26) ZlB = true ∧ okC (C.ann 26) Zs3 = true := by
  refine ⟨?_, ?_, ?_, ?_, ?_, ?_, ?_, ?_, ?_, ?_, ?_, ?_⟩ <;> kernel_rfl
theorem ez77 : C.elemZero 77 = some (.bool false) := by kernel_rfl
theorem YeZ : C.elemSize 77 = some 1 := by kernel_rfl
theorem eo77 : C.elemOk 77 1 = true := by kernel_rfl
theorem eb77 : C.elemBytes 77 = some 1 := by kernel_rfl
theorem Yd7 : C.elemSize 78 = some 1 := by kernel_rfl
theorem eo78 : C.elemOk 78 1 = true := by kernel_rfl
theorem eb78 : C.elemBytes 78 = some 8 := by kernel_rfl
theorem hz78 : C.hasZero 78 = true := by kernel_rfl
theorem ag3 : C.isAgg 3 = some false := by kernel_rfl
theorem ag4z : C.isAgg 4 = some false := by kernel_rfl
theorem sz4z : C.size 4 = some 1 := by kernel_rfl
theorem es31 : C.elemSize 31 = some 1 := by kernel_rfl
theorem rm77 {n : Nat} (h : n ≤ 2 ^ 40) : Zb9 C 77 n = true := by
  simp only [Zb9, eb77, Bool.and_eq_true, Nat.ble_eq]
  exact ⟨by omega, by omega⟩
theorem rm78 {n : Nat} (h : n ≤ 2 ^ 40) : Zb9 C 78 n = true := by
  simp only [Zb9, eb78, Bool.and_eq_true, Nat.ble_eq]
  exact ⟨by omega, by omega⟩
def YaI (n : Nat) (f : Nat → Bool) : List AV := (List.range n).map fun j => AV.d (.bool (f j))
theorem Zwy {n : Nat} {f : Nat → Bool} {j : Nat} (h : j < n) : (YaI n f)[j]? = some (.d (.bool (f j))) := by
  unfold YaI
  rw [List.getElem?_map, List.getElem?_range h]
  rfl
theorem Ybw {n : Nat} {f : Nat → Bool} {j : Nat} : (YaI n f).set j (.d (.bool true)) = YaI n (fun b => if b = j then true else f b) := by
  apply List.ext_getElem?
  intro k
  rw [List.getElem?_set]
  unfold YaI
  simp only [List.getElem?_map, List.length_map, List.length_range]
  rcases Nat.lt_or_ge k n with hk | hk
  · rw [List.getElem?_range hk]
    by_cases e : j = k
    · subst e; simp [hk]
    · have e2 : k ≠ j := fun h => e h.symm
      simp [e, e2]
  · rw [List.getElem?_eq_none (by simpa using hk)]
    by_cases e : j = k
    · subst e; simp; omega
    · simp [e]
def hS (n : Nat) (f : Nat → Bool) : List AObj := [.arr 0 true (YaI n f)]
def eA (raw : List Cus) (fr : Nat) (v : Value) : List (Nat × SV) := [(0, .val (.d (d44 raw))), (1, .val (.d (.int .i64 fr))), (4, .val (.d (.bool false))), (5, .val (.osl 0 0 raw.length)), (6, .val (.raw v))]
def eB (raw : List Cus) (fr : Nat) (v : Value) : List (Nat × SV) := eA raw fr v ++ [(19, .val (.d (.bool true)))]
def eC (raw : List Cus) (fr : Nat) (v : Value) (i : Nat) : List (Nat × SV) := eB raw fr v ++ [(7, .val (.d (.int .i64 i)))]
def eD (raw : List Cus) (fr : Nat) (v : Value) (i : Nat) (us : List (List UInt8)) : List (Nat × SV) := eC raw fr v i ++ [(8, .val (.d (.slc (us.map DV.str))))]
def eE (raw : List Cus) (fr : Nat) (v : Value) (i : Nat) (us : List (List UInt8)) (k : Nat) : List (Nat × SV) := eD raw fr v i us ++ [(10, .val (.d (.int .i64 k)))]
def eF (raw : List Cus) (fr : Nat) (v : Value) (i : Nat) (us : List (List UInt8)) (k : Nat) : List (Nat × SV) := eE raw fr v i us k ++ [(37, .val (.d (.bool true)))]
def eG (raw : List Cus) (fr : Nat) (v : Value) (i : Nat) (us : List (List UInt8)) (k : Nat) (z : Int) : List (Nat × SV) := eF raw fr v i us k ++ [(11, .val (.d (.int .i64 z)))]
section
attribute [local simp] List.getElem?_cons_zero Option.bind_some Zvm Zd4 Zcj Zbd ZfC ZdL Zcx ZjI ZfE ZdG Zfm Zfv Zjh Zfx Zb6 Zbt ZiO ZaS ZaZ ZjM ZaW Zcq Zdh ZdR Zca has opx opd opA opD XV.flat XV.copy oD oA Zad ins ZlS ZfU St.put St.putOwn St.lose St.loseEnv unal ZjC ZjK Zpi dUn Zgv Zay ZbV Zbc Za8 ZaN Zcc ZbA ZbZ ZhU Zbs AV.cells AV.cellOk AV.single DV.cellOk Zuw Zvx Zu2 DV.cells ZaK ZeU ZaG ZbW ZaH ZaX Zj5 ZaU Zeb mapO AV.toD ZaB ZbR Zd5 optD Zb2 Za5 Zfl Zao ZbQ ZbH ZaF ZdB Zc1 Zbi St.trim Out.st
theorem YcL {call : Zaa} (raw : List Cus) (fr : Nat) : evQ C call (ann 26) 0 ZzD ⟨ZgA 0 [.d (d44 raw), .d (.int .i64 fr)], [], []⟩ = some (.norm ⟨[(0, .val (.d (d44 raw))), (1, .val (.d (.int .i64 fr))), (4, .val (.d (.bool false)))], [], []⟩) := by
  unfold ZzD B26 Zac Tryz.f26 d44
  simp only [Option.getD_some, sq1, sq2]
  simp [-getElem?_pos, A26, Zai, ZgA]
end
theorem YbQ (n : Nat) : List.replicate n (AV.d (.bool false)) = YaI n fun _ => false := by
  apply List.ext_getElem?
  intro k
  unfold YaI
  rw [List.getElem?_map, List.getElem?_replicate]
  rcases Nat.lt_or_ge k n with hk | hk
  · rw [List.getElem?_range hk, if_pos hk]; rfl
  · rw [List.getElem?_eq_none (by simpa using hk), if_neg (by omega)]; rfl
section
attribute [local simp] List.getElem?_cons_zero Option.bind_some Zvm Zd4 Zcj Zbd ZfC ZdL Zcx ZjI ZfE ZdG Zfm Zfv Zjh Zfx Zb6 Zbt ZiO ZaS ZaZ ZjM ZaW Zcq Zdh ZdR Zca has opx opd opA opD XV.flat XV.copy oD oA Zad ins ZlS ZfU St.put St.putOwn St.lose St.loseEnv unal ZjC ZjK Zpi dUn Zgv Zay ZbV Zbc Za8 ZaN Zcc ZbA ZbZ ZhU Zbs AV.cells AV.cellOk AV.single DV.cellOk Zuw Zvx Zu2 DV.cells ZaK ZeU ZaG ZbW ZaH ZaX Zj5 ZaU Zeb mapO AV.toD ZaB ZbR Zd5 optD Zb2 Za5 Zfl Zao ZbQ ZbH ZaF ZdB Zc1 Zbi St.trim Out.st
theorem YcY {call : Zaa} (raw : List Cus) (fr : Nat) (hl : raw.length ≤ 2 ^ 40) : evQ C call (ann 26) 0 ZyL ⟨[(0, .val (.d (d44 raw))), (1, .val (.d (.int .i64 fr))), (4, .val (.d (.bool false)))], [], []⟩ =
    some (.norm ⟨[(0, .val (.d (d44 raw))), (1, .val (.d (.int .i64 fr))), (4, .val (.d (.bool false))), (5, .val (.osl 0 0 raw.length))], [], hS raw.length fun _ => false⟩) := by
  have hr := rm77 hl
  unfold ZyL B26 Zac Tryz.f26 d44 hS
  simp only [Option.getD_some, sq1, sq2]
  simp [-getElem?_pos, A26, Zai, ez77, YeZ, eo77, hr, ZuJ, YbQ]
theorem Ydh {call : Zaa} (raw : List Cus) (fr : Nat) (v : Value) (i : Nat) (us : List (List UInt8)) (h : List AObj) : evQ C call (ann 26) 0 Zwm ⟨eD raw fr v i us, [], h⟩ = some (.norm ⟨eE raw fr v i us 0, [], h⟩) := by
  unfold Zwm K26 L26 B26 Zac Tryz.f26 eE eD eC eB eA
  simp only [Option.getD_some, sq1, sq2, inn]
  simp [-getElem?_pos, A26, Zai]
theorem YbF {call : Zaa} (raw : List Cus) (fr : Nat) (v : Value) (i : Nat) (x : Cus) (hx : raw[i]? = some x) (us : List (List UInt8)) (h : List AObj)
    (hc : Zb8 call true 13 [.slc (x.val.map Val.enc)] = some (.tup [.slc (us.map DV.str), .int .i64 0])) : evQ C call (ann 26) 0 Zw3 ⟨eC raw fr v i, [], h⟩ = some (.norm ⟨eD raw fr v i us, [], h⟩) := by
  have hlt : i < raw.length := (List.getElem?_eq_some_iff.1 hx).1
  have hg := ZlJ hx
  have hi := YbA hlt
  unfold Zw3 K26 L26 B26 Zac Tryz.f26 eD eC eB eA d44
  simp only [Option.getD_some, sq1, sq2, inn]
  simp [-getElem?_pos, A26, Zai, ZuJ, hg, hi, hc, Zob, ZzT, ZyK, -List.getElem?_map]
theorem Zxe {call : Zaa} (raw : List Cus) (fr : Nat) (v : Value) (i : Nat) (us : List (List UInt8)) (k : Nat) (h : List AObj) : evQ C call (ann 26) 0 Zur ⟨eE raw fr v i us k, [], h⟩ = some (.norm ⟨eE raw fr v i us k ++ [(37, .val (.d (.bool (decide (k < us.length)))))], [], h⟩) := by
  unfold Zur Y26 K26 L26 B26 Zac Tryz.f26 eE eD eC eB eA
  simp only [Option.getD_some, sq1, sq2, inn]
  simp [-getElem?_pos, A26, Zai, es31]
theorem YbH {call : Zaa} (raw : List Cus) (fr : Nat) (v : Value) (i : Nat) (us : List (List UInt8)) (k : Nat) (hk : k < 2 ^ 40) (h : List AObj) : evQ C call (ann 26) 0 ZuG ⟨eF raw fr v i us k, [], h⟩ = some (.norm ⟨eE raw fr v i us (k + 1) ++ [(37, .val (.d (.bool true)))], [], h⟩) := by
  have hw : IntKind.i64.wrap ((k : Int) + 1) = (k : Int) + 1 := Za7 (by omega)
  unfold ZuG Y26 K26 L26 B26 Zac Tryz.f26 eF eE eD eC eB eA
  simp only [Option.getD_some, sq1, sq2, inn]
  simp [-getElem?_pos, A26, Zai, hw]
theorem Zzg {call : Zaa} (raw : List Cus) (fr : Nat) (v : Value) (i : Nat) (us : List (List UInt8)) (k : Nat) (u : List UInt8) (hu : us[k]? = some u) (z : Int) (h : List AObj) (hc : Zb8 call true 17 [d44 raw, .str u] = some (.int .i64 z)) :
    evQ C call (ann 26) 0 Zk1 ⟨eF raw fr v i us k, [], h⟩ = some (.norm ⟨eG raw fr v i us k z, [], h⟩) := by
  have hlt : k < us.length := (List.getElem?_eq_some_iff.1 hu).1
  have hg : (us.map DV.str)[k]? = some (.str u) := by rw [List.getElem?_map, hu]; rfl
  have hi : idx (k : Int) us.length = some k := Zt4 hlt
  unfold Zk1 M26 Y26 K26 L26 B26 Zac Tryz.f26 eG eF eE eD eC eB eA
  simp only [Option.getD_some, sq1, sq2, inn]
  simp [-getElem?_pos, A26, Zai, es31, hg, hi, hc, hz9, ag9, -List.getElem?_map]
theorem ZsW {call : Zaa} (raw : List Cus) (fr : Nat) (v : Value) (i : Nat) (us : List (List UInt8)) (k : Nat) (z : Int) (h : List AObj) : evQ C call (ann 26) 0 ZlZ ⟨eG raw fr v i us k z, [], h⟩ = some (.norm ⟨eG raw fr v i us k z ++ [(48, .val (.d (.bool (z == (fr : Int)))))], [], h⟩) := by
  unfold ZlZ M26 Y26 K26 L26 B26 Zac Tryz.f26 eG eF eE eD eC eB eA
  simp only [Option.getD_some, sq1, sq2, inn]
  simp [-getElem?_pos, A26, Zai]
end
end Go.Tev.S1
namespace Go.Tev.S1
open Go.Abs Go.Proofs
section
attribute [local simp] List.getElem?_cons_zero Option.bind_some Zvm Zd4 Zcj Zbd ZfC ZdL Zcx ZjI ZfE ZdG Zfm Zfv Zjh Zfx Zb6 Zbt ZiO ZaS ZaZ ZjM ZaW Zcq Zdh ZdR Zca has opx opd opA opD XV.flat XV.copy oD oA Zad ins ZlS ZfU St.put St.putOwn St.lose St.loseEnv unal ZjC ZjK Zpi dUn Zgv Zay ZbV Zbc Za8 ZaN Zcc ZbA ZbZ ZhU Zbs AV.cells AV.cellOk AV.single DV.cellOk Zuw Zvx Zu2 DV.cells ZaK ZeU ZaG ZbW ZaH ZaX Zj5 ZaU Zeb mapO AV.toD ZaB ZbR Zd5 optD Zb2 Za5 Zfl Zao ZbQ ZbH ZaF ZdB Zc1 Zbi St.trim Out.st
theorem ZyB {call : Zaa} (raw : List Cus) (fr : Nat) (v : Value) (i : Nat) (us : List (List UInt8)) (k : Nat) (z : Int) (h : List AObj) : evQ C call (ann 26) 0 ZlD ⟨eG raw fr v i us k z ++ [(48, .val (.d (.bool true)))], [], h⟩ = some (.norm ⟨Zgv (eG raw fr v i us k z ++ [(48, .val (.d (.bool true)))]) 4 (.val (.d (.bool true))), [], h⟩) := by
  unfold ZlD M26 Y26 K26 L26 B26 Zac Tryz.f26 eG eF eE eD eC eB eA
  simp only [Option.getD_some, sq1, sq2, inn, cn1]
  simp [-getElem?_pos, A26, Zai]
def eH (raw : List Cus) (fr : Nat) (v : Value) (i : Nat) (us : List (List UInt8)) (k : Nat) (z : Int) : List (Nat × SV) := eG raw fr v i us k z ++ [(48, .val (.d (.bool false)))]
theorem Zx1 {call : Zaa} (raw : List Cus) (fr : Nat) (v : Value) (i : Nat) (us : List (List UInt8)) (k : Nat) (z : Int) (hz : z < 0) (h : List AObj) : evQ C call (ann 26) 0 ZiL ⟨eH raw fr v i us k z, [], h⟩ = some (.norm ⟨eH raw fr v i us k z ++ [(57, .val (.d (.bool false)))], [], h⟩) := by
  have hd : decide (z ≥ 0) = false := by simp; omega
  have hn : ¬ (0 ≤ z) := by omega
  unfold ZiL M26 Y26 K26 L26 B26 Zac Tryz.f26 eH eG eF eE eD eC eB eA
  simp only [Option.getD_some, sq1, sq2, inn]
  simp [-getElem?_pos, A26, Zai, hd, hn, hz]
theorem Zyd {call : Zaa} (raw : List Cus) (fr : Nat) (v : Value) (i : Nat) (us : List (List UInt8)) (k : Nat) (z : Nat) (f : Nat → Bool) (hz : z < raw.length) : evQ C call (ann 26) 0 ZiL ⟨eH raw fr v i us k z, [], hS raw.length f⟩ = some (.norm ⟨eH raw fr v i us k z ++ [(57, .val (.d (.bool (!f z))))], [], hS raw.length f⟩) := by
  have hi : idx (z : Int) raw.length = some z := Zt4 hz
  have hg := Zwy (f := f) hz
  unfold ZiL M26 Y26 K26 L26 B26 Zac Tryz.f26 eH eG eF eE eD eC eB eA hS
  simp only [Option.getD_some, sq1, sq2, inn]
  simp [-getElem?_pos, A26, Zai, YeZ, Zee, hi, hg, ag4z]
theorem ZyS {call : Zaa} (raw : List Cus) (fr : Nat) (v : Value) (i : Nat) (us : List (List UInt8)) (k : Nat) (z : Nat) (f : Nat → Bool) (hz : z < raw.length) : evQ C call (ann 26) 0 ZlB ⟨eH raw fr v i us k z ++ [(57, .val (.d (.bool true)))], [], hS raw.length f⟩ =
    some (.norm ⟨eH raw fr v i us k z ++ [(57, .val (.d (.bool true)))], [], hS raw.length fun b => if b = z then true else f b⟩) := by
  have hi : idx (z : Int) raw.length = some z := Zt4 hz
  have hg := Zwy (f := f) hz
  have hs := Ybw (n := raw.length) (f := f) (j := z)
  unfold ZlB M26 Y26 K26 L26 B26 Zac Tryz.f26 eH eG eF eE eD eC eB eA hS
  simp only [Option.getD_some, sq1, sq2, inn, cn1]
  simp [-getElem?_pos, A26, Zai, YeZ, Zee, hi, hg, ag4z, sz4z, Zd6, Zqw, hs]
theorem Zze {call : Zaa} (raw : List Cus) (fr : Nat) (v : Value) (h : List AObj) : evQ C call (ann 26) 0 Zs3 ⟨eA raw fr v, [], h⟩ = some (.norm ⟨eA raw fr v, [], h⟩) := by
  unfold Zs3 B26 Zac Tryz.f26 eA
  simp only [Option.getD_some, sq1, sq2]
  simp [-getElem?_pos, A26, Zai]
noncomputable abbrev nth (c : Code) (k : Nat) : Oper := op0 ((opsL c).drop k)
theorem q26_2 : Ziw = .region 2 (ops Ziw) false ∧ (ops Ziw).toList = (opsL Ziw).take 1 ++ nth Ziw 1 :: (opsL Ziw).drop 2 := ⟨by kernel_rfl, by kernel_rfl⟩
theorem q26_3 : ZhB = .region 3 (ops ZhB) false ∧ (ops ZhB).toList = (opsL ZhB).take 1 ++ nth ZhB 1 :: (opsL ZhB).drop 2 := ⟨by kernel_rfl, by kernel_rfl⟩
theorem q26_4 : Zgs = .region 4 (ops Zgs) false ∧ (ops Zgs).toList = (opsL Zgs).take 1 ++ nth Zgs 1 :: (opsL Zgs).drop 2 := ⟨by kernel_rfl, by kernel_rfl⟩
theorem q26_5 : Zgt = .region 5 (ops Zgt) false ∧ (ops Zgt).toList = (opsL Zgt).take 1 ++ nth Zgt 1 :: (opsL Zgt).drop 2 := ⟨by kernel_rfl, by kernel_rfl⟩
theorem q26_15 : Zck = .region 15 (ops Zck) false ∧ (ops Zck).toList = (opsL Zck).take 3 ++ nth Zck 3 :: (opsL Zck).drop 4 := ⟨by kernel_rfl, by kernel_rfl⟩
theorem Yfk : (nth Ziw 1).guard = none ∧ (nth Ziw 1).dst = some 16 ∧ (nth Ziw 1).op = .buildSlice 78 1 #[(0, .tmp 15)] := ⟨by kernel_rfl, by kernel_rfl, by kernel_rfl⟩
theorem Yfe : (nth ZhB 1).guard = none := by kernel_rfl
theorem Yff : (nth Zgs 1).guard = none := by kernel_rfl
theorem YeA : (nth Zgt 1).guard = none ∧ (nth Zgt 1).dst = some 24 ∧ (nth Zgt 1).op = .slice 78 (.tmp 23) (some (.const (.int .i64 1))) none none := ⟨by kernel_rfl, by kernel_rfl, by kernel_rfl⟩
theorem Yei : (nth Zck 3).guard = none ∧ (nth Zck 3).dst = some 64 ∧ (nth Zck 3).op = .call { callee := .builtin .append, args := #[.tmp 61, .tmp 63], argTypes := #[78, 78] } := ⟨by kernel_rfl, by kernel_rfl, by kernel_rfl⟩
theorem Yfb {call : Zaa} {all : List Oper} (raw : List Cus) (fr : Nat) (h : List AObj) : Zai C call (ann 26) all ((opsL Ziw).take 1) ⟨[(0, .val (.d (d44 raw))), (1, .val (.d (.int .i64 fr))), (4, .val (.d (.bool false))), (5, .val (.osl 0 0 raw.length))], [], h⟩ =
    some ⟨[(0, .val (.d (d44 raw))), (1, .val (.d (.int .i64 fr))), (4, .val (.d (.bool false))), (5, .val (.osl 0 0 raw.length))], [(15, .a (.d (.int .i64 fr)))], h⟩ := by
  unfold opsL ops Ziw B26 Zac Tryz.f26
  simp only [Option.getD_some, sq1, sq2, List.take]
  simp [-getElem?_pos, A26, Zai]
theorem Yfc (raw : List Cus) (fr : Nat) (h : List AObj) : Zao C 78 1 ⟨[(0, .val (.d (d44 raw))), (1, .val (.d (.int .i64 fr))), (4, .val (.d (.bool false))), (5, .val (.osl 0 0 raw.length))], [(15, .a (.d (.int .i64 fr)))], h⟩ [(0, .tmp 15)] = some [.int .i64 fr] := by
  simp [-getElem?_pos, A26, Yd7, hz78]
theorem YeL {call : Zaa} {all : List Oper} (raw : List Cus) (fr : Nat) (v : Value) (h : List AObj) : Zai C call (ann 26) all ((opsL Ziw).drop 2) ⟨[(0, .val (.d (d44 raw))), (1, .val (.d (.int .i64 fr))), (4, .val (.d (.bool false))), (5, .val (.osl 0 0 raw.length))], [(16, .a (.raw v)), (15, .a (.d (.int .i64 fr)))], h⟩ =
    some ⟨eA raw fr v, [(16, .a (.raw v)), (15, .a (.d (.int .i64 fr)))], h⟩ := by
  unfold opsL ops Ziw B26 Zac Tryz.f26 eA
  simp only [Option.getD_some, sq1, sq2, List.drop]
  simp [-getElem?_pos, A26, Zai]
theorem YeV {call : Zaa} {all : List Oper} (raw : List Cus) (fr : Nat) (v : Value) (h : List AObj) : Zai C call (ann 26) all ((opsL ZhB).take 1) ⟨eA raw fr v, [], h⟩ = some ⟨eA raw fr v, [(17, .a (.raw v))], h⟩ := by
  unfold opsL ops ZhB L26 B26 Zac Tryz.f26 eA
  simp only [Option.getD_some, sq1, sq2, inn, List.take]
  simp [-getElem?_pos, A26, Zai]
theorem YeO {call : Zaa} (raw : List Cus) (fr : Nat) (v : Value) (qs : List Int) (h : List AObj) : ZjM C call (ann 26) (nth ZhB 1) ⟨eA raw fr v, [(17, .a (.d (ints qs)))], h⟩ = some ⟨eA raw fr v, [(18, .a (.d (.int .i64 qs.length))), (17, .a (.d (ints qs)))], h⟩ := by
  unfold nth op0 opsL ops ZhB L26 B26 Zac Tryz.f26 eA ints
  simp only [Option.getD_some, sq1, sq2, inn, List.drop, List.headD]
  simp [-getElem?_pos, A26, Zai, Yd7]
theorem YeI {call : Zaa} {all : List Oper} (raw : List Cus) (fr : Nat) (v : Value) (qs : List Int) (h : List AObj) : Zai C call (ann 26) all ((opsL ZhB).drop 2) ⟨eA raw fr v, [(18, .a (.d (.int .i64 qs.length))), (17, .a (.d (ints qs)))], h⟩ =
    some ⟨eA raw fr v ++ [(19, .val (.d (.bool (decide (0 < qs.length)))))], [(18, .a (.d (.int .i64 qs.length))), (17, .a (.d (ints qs)))], h⟩ := by
  unfold opsL ops ZhB L26 B26 Zac Tryz.f26 eA
  simp only [Option.getD_some, sq1, sq2, inn, List.drop]
  simp [-getElem?_pos, A26, Zai]
theorem Ye8 {call : Zaa} {all : List Oper} (raw : List Cus) (fr : Nat) (v : Value) (h : List AObj) : Zai C call (ann 26) all ((opsL Zgs).take 1) ⟨eB raw fr v, [], h⟩ = some ⟨eB raw fr v, [(20, .a (.raw v))], h⟩ := by
  unfold opsL ops Zgs K26 L26 B26 Zac Tryz.f26 eB eA
  simp only [Option.getD_some, sq1, sq2, inn, List.take]
  simp [-getElem?_pos, A26, Zai]
theorem YeU {call : Zaa} (raw : List Cus) (fr : Nat) (v : Value) (i : Int) (qs : List Int) (h : List AObj) : ZjM C call (ann 26) (nth Zgs 1) ⟨eB raw fr v, [(20, .a (.d (ints (i :: qs))))], h⟩ = some ⟨eB raw fr v, [(21, .fp [.int .i64 i]), (20, .a (.d (ints (i :: qs))))], h⟩ := by
  have h0 : idx 0 (qs.length + 1) = some 0 := by unfold idx; rw [if_pos (by constructor <;> omega)]; rfl
  unfold nth op0 opsL ops Zgs K26 L26 B26 Zac Tryz.f26 eB eA ints
  simp only [Option.getD_some, sq1, sq2, inn, List.drop, List.headD]
  simp [-getElem?_pos, A26, Zai, Yd7, h0]
theorem Yfj {call : Zaa} {all : List Oper} (raw : List Cus) (fr : Nat) (v : Value) (i : Nat) (qs : List Int) (h : List AObj) : ∃ tm, Zai C call (ann 26) all ((opsL Zgs).drop 2) ⟨eB raw fr v, [(21, .fp [.int .i64 i]), (20, .a (.d (ints ((i : Int) :: qs))))], h⟩ = some ⟨eC raw fr v i, tm, h⟩ := by
  refine ⟨[(22, .a (.d (.int .i64 i))), (21, .fp [.int .i64 i]), (20, .a (.d (ints ((i : Int) :: qs))))], ?_⟩
  unfold opsL ops Zgs K26 L26 B26 Zac Tryz.f26 eC eB eA
  simp only [Option.getD_some, sq1, sq2, inn, List.drop]
  simp [-getElem?_pos, A26, Zai, ag3]
theorem Ye9 {call : Zaa} {all : List Oper} (raw : List Cus) (fr : Nat) (v : Value) (i : Nat) (h : List AObj) : Zai C call (ann 26) all ((opsL Zgt).take 1) ⟨eC raw fr v i, [], h⟩ = some ⟨eC raw fr v i, [(23, .a (.raw v))], h⟩ := by
  unfold opsL ops Zgt K26 L26 B26 Zac Tryz.f26 eC eB eA
  simp only [Option.getD_some, sq1, sq2, inn, List.take]
  simp [-getElem?_pos, A26, Zai]
theorem Ye0 {call : Zaa} {all : List Oper} (raw : List Cus) (fr : Nat) (v v' : Value) (i : Nat) (h : List AObj) : ∃ tm, Zai C call (ann 26) all ((opsL Zgt).drop 2) ⟨eC raw fr v i, [(24, .a (.raw v')), (23, .a (.raw v))], h⟩ = some ⟨eC raw fr v' i, tm, h⟩ := by
  refine ⟨[(24, .a (.raw v')), (23, .a (.raw v))], ?_⟩
  unfold opsL ops Zgt K26 L26 B26 Zac Tryz.f26 eC eB eA
  simp only [Option.getD_some, sq1, sq2, inn, List.drop]
  simp [-getElem?_pos, A26, Zai]
def eI (raw : List Cus) (fr : Nat) (v : Value) (i : Nat) (us : List (List UInt8)) (k : Nat) (z : Int) : List (Nat × SV) := eH raw fr v i us k z ++ [(57, .val (.d (.bool true)))]
theorem YdU {call : Zaa} {all : List Oper} (raw : List Cus) (fr : Nat) (v : Value) (i : Nat) (us : List (List UInt8)) (k : Nat) (z : Int) (h : List AObj) : Zai C call (ann 26) all ((opsL Zck).take 3) ⟨eI raw fr v i us k z, [], h⟩ =
    some ⟨eI raw fr v i us k z, [(63, .a (.d (.slc [.int .i64 z]))), (62, .a (.d (.int .i64 z))), (61, .a (.raw v))], h⟩ := by
  unfold opsL ops Zck M26 Y26 K26 L26 B26 Zac Tryz.f26 eI eH eG eF eE eD eC eB eA
  simp only [Option.getD_some, sq1, sq2, inn, cn1, List.take]
  simp [-getElem?_pos, A26, Zai, Yd7, hz78]
theorem Yef {call : Zaa} {all : List Oper} (raw : List Cus) (fr : Nat) (v v' : Value) (i : Nat) (us : List (List UInt8)) (k : Nat) (z : Int) (h : List AObj) : ∃ tm, Zai C call (ann 26) all ((opsL Zck).drop 4) ⟨eI raw fr v i us k z, [(64, .a (.raw v')), (63, .a (.d (.slc [.int .i64 z]))), (62, .a (.d (.int .i64 z))), (61, .a (.raw v))], h⟩ = some ⟨eI raw fr v' i us k z, tm, h⟩ := by
  refine ⟨[(64, .a (.raw v')), (63, .a (.d (.slc [.int .i64 z]))), (62, .a (.d (.int .i64 z))), (61, .a (.raw v))], ?_⟩
  unfold opsL ops Zck M26 Y26 K26 L26 B26 Zac Tryz.f26 eI eH eG eF eE eD eC eB eA
  simp only [Option.getD_some, sq1, sq2, inn, cn1, List.drop]
  simp [-getElem?_pos, A26, Zai]
end
end Go.Tev.S1
namespace Go.Abs
theorem Zxv {C : Ctx} {fa : FA} {c : Code} {st : St} {Q : Out → Prop} (h : ∀ w0 ZbO, TJ C fa w0 ZbO st.heap c st none (fun o _ => Q o)) : Tri C fa c st Q := fun own a w S =>
  wp_mono (h w own own a w ⟨S, .refl w own, (Grow.refl w).extA own _, trivial⟩) fun e a' w' ⟨o, q', hq, he, own', J⟩ => ⟨o, hq, he, own', J.s, J.f, J.e⟩
end Go.Abs
namespace Go.Tev.S1
open Go.Abs Go.Proofs
inductive Way (A : Nat → Nat → Prop) (a : Nat) : Nat → Prop where
  | one {b : Nat} (h : A a b) : Way A a b
  | snoc {b c : Nat} (t : Way A a b) (h : A b c) : Way A a c
def un : Nat → (Nat → Bool) → Nat
  | 0, _ => 0
  | n + 1, f => un n f + (if f n = true then 0 else 1)
def mark (f : Nat → Bool) (y : Nat) : Nat → Bool := fun b => if b = y then true else f b
theorem Zs9 {f : Nat → Bool} {y : Nat} : ∀ {n : Nat}, n ≤ y → un n (mark f y) = un n f
  | 0, _ => rfl
  | n + 1, h => by
    have e : mark f y n = f n := by unfold mark; rw [if_neg (by omega)]
    rw [un, un, Zs9 (by omega), e]
theorem Zxz {f : Nat → Bool} {y : Nat} (hf : f y = false) : ∀ {n : Nat}, y < n → un n (mark f y) + 1 = un n f
  | n + 1, h => by
    rw [un, un]
    by_cases e : y = n
    · subst e
      rw [Zs9 (Nat.le_refl _), show mark f y y = true by simp [mark], hf]
      simp
    · have e2 : mark f y n = f n := by unfold mark; rw [if_neg (by omega)]
      have := Zxz hf (n := n) (by omega)
      rw [e2]
      omega
def Adj (raw : List Cus) (a b : Nat) : Prop := ∃ x, raw[a]? = some x ∧ ∃ u ∈ Zbh x.val, ZcG raw u 0 = (b : Int)
structure Srch (A : Nat → Nat → Prop) (fr n : Nat) (qs : List Nat) (f : Nat → Bool) : Prop where
  lt : ∀ x ∈ qs, x < n ∧ (x = fr ∨ f x = true)
  way : ∀ x, f x = true → Way A fr x
def Cl (A : Nat → Nat → Prop) (fr : Nat) (f : Nat → Bool) (x : Nat) : Prop := ∀ y, A x y → y ≠ fr ∧ f y = true
theorem Zxi (f : Nat → Bool) (y : Nat) : mark f y y = true := by simp [mark]
theorem Zir {f : Nat → Bool} {y x : Nat} (h : f x = true) : mark f y x = true := by
  unfold mark; split
  · rfl
  · exact h
theorem Cl.mono {A : Nat → Nat → Prop} {fr : Nat} {f : Nat → Bool} {x y : Nat} (h : Cl A fr f x) : Cl A fr (mark f y) x := fun z hz => ⟨(h z hz).1, Zir (h z hz).2⟩
theorem ZzU {A : Nat → Nat → Prop} {fr : Nat} {f : Nat → Bool} (h : ∀ x, x = fr ∨ f x = true → Cl A fr f x) : ¬ Way A fr fr := by
  have : ∀ b, Way A fr b → b ≠ fr ∧ f b = true := by
    intro b hb
    induction hb with
    | one e => exact h fr (.inl rfl) _ e
    | snoc t e ih => exact h _ (.inr ih.2) _ e
  exact fun hw => (this fr hw).1 rfl
theorem Ztt (raw : List Cus) (u : List UInt8) : ∀ b : Int, ZcG raw u b = -1 ∨ (b ≤ ZcG raw u b ∧ ZcG raw u b < b + raw.length) := by
  induction raw with
  | nil => intro b; exact .inl rfl
  | cons x r ih =>
    intro b
    simp only [ZcG]
    cases x.name == u with
    | true => right; simp only [if_true, List.length_cons]; constructor <;> omega
    | false =>
      simp only [Bool.false_eq_true, if_false, List.length_cons]
      rcases ih (b + 1) with h | ⟨h1, h2⟩
      · exact .inl h
      · exact .inr ⟨by omega, by omega⟩
theorem ZsK : ∀ {raw : List Cus}, (raw.map Cus.name).Nodup → ∀ (u : List UInt8) (k : Int) (b : Nat), ZcG raw u k = k + b ↔ (∃ y, raw[b]? = some y ∧ y.name = u) ∨ (ZcG raw u k = -1 ∧ k + b = -1)
  | [], _, u, k, b => by simp [ZcG]; omega
  | x :: r, hn, u, k, b => by
    simp only [List.map_cons, List.nodup_cons] at hn
    simp only [ZcG]
    cases e : (x.name == u) with
    | true =>
      have hx : x.name = u := by simpa using e
      simp only [if_true]
      constructor
      · intro h
        have : b = 0 := by omega
        subst this
        exact .inl ⟨x, rfl, hx⟩
      · rintro (⟨y, h1, h2⟩ | ⟨h1, h2⟩)
        · rcases b with _ | b
          · simp
          · rw [List.getElem?_cons_succ] at h1
            exact absurd (List.mem_map.2 ⟨y, List.mem_of_getElem? h1, by rw [h2, hx]⟩) hn.1
        · omega
    | false =>
      have hx : x.name ≠ u := by simpa using e
      simp only [Bool.false_eq_true, if_false]
      have ih := ZsK hn.2 u (k + 1)
      rcases b with _ | b
      · constructor
        · intro h
          rcases Ztt r u (k + 1) with h1 | ⟨h1, _⟩
          · exact .inr ⟨h1, by omega⟩
          · omega
        · rintro (⟨y, h1, h2⟩ | ⟨h1, h2⟩)
          · rw [List.getElem?_cons_zero] at h1; cases h1; exact absurd h2 hx
          · omega
      · have := ih b
        rw [List.getElem?_cons_succ, show k + ((b + 1 : Nat) : Int) = k + 1 + b by omega]
        exact this
theorem Zi9 {raw : List Cus} (hn : (raw.map Cus.name).Nodup) (u : List UInt8) (b : Nat) : ZcG raw u 0 = (b : Int) ↔ ∃ y, raw[b]? = some y ∧ y.name = u := by
  have := ZsK hn u 0 b
  rw [Int.zero_add] at this
  rw [this]
  constructor
  · rintro (h | ⟨_, h⟩)
    · exact h
    · omega
  · exact .inl
theorem Yav {raw : List Cus} (hn : (raw.map Cus.name).Nodup) {a b : Nat} {x y : Cus} (hx : raw[a]? = some x) (hy : raw[b]? = some y) (h : Way (Adj raw) a b) : Path (Za3 raw) x.name y.name := by
  have edge : ∀ {a b : Nat} {x y : Cus}, raw[a]? = some x → raw[b]? = some y → Adj raw a b → Edge (Za3 raw) x.name y.name := by
    intro a b x y hx hy ⟨x', h1, u, hu, h2⟩
    rw [hx] at h1; cases h1
    obtain ⟨y', h3, h4⟩ := (Zi9 hn u b).1 h2
    rw [hy] at h3; cases h3
    subst h4
    exact (Zjf hn (List.mem_of_getElem? hx)).2 ⟨hu, List.mem_map.2 ⟨y, List.mem_of_getElem? hy, rfl⟩⟩
  induction h generalizing y with
  | one e => exact .one (edge hx hy e)
  | @snoc m c t e ih =>
    have e' := e
    obtain ⟨z, hz, _⟩ := e'
    exact (ih hz).trans (.one (edge hz hy e))
theorem Zz3 {raw : List Cus} (hn : (raw.map Cus.name).Nodup) {p q : List UInt8} (h : Path (Za3 raw) p q) : ∀ {a : Nat} {x : Cus}, raw[a]? = some x → x.name = p → ∃ b y, raw[b]? = some y ∧ y.name = q ∧ Way (Adj raw) a b := by
  have edge : ∀ {p q : List UInt8}, Edge (Za3 raw) p q → ∀ {a : Nat} {x : Cus}, raw[a]? = some x → x.name = p → ∃ b y, raw[b]? = some y ∧ y.name = q ∧ Adj raw a b := by
    intro p q he a x hx hp
    subst hp
    obtain ⟨h1, h2⟩ := (Zjf hn (List.mem_of_getElem? hx)).1 he
    obtain ⟨y, hy, rfl⟩ := List.mem_map.1 h2
    obtain ⟨b, hb⟩ := List.mem_iff_getElem?.1 hy
    exact ⟨b, y, hb, rfl, x, hx, y.name, h1, (Zi9 hn _ b).2 ⟨y, hb, rfl⟩⟩
  have pre : ∀ {A : Nat → Nat → Prop} {a b c : Nat}, A a b → Way A b c → Way A a c := by
    intro A a b c h t
    induction t with
    | one e => exact .snoc (.one h) e
    | snoc t e ih => exact .snoc ih e
  induction h with
  | one e => intro a x hx hp; obtain ⟨b, y, h1, h2, h3⟩ := edge e hx hp; exact ⟨b, y, h1, h2, .one h3⟩
  | step e t ih =>
    intro a x hx hp
    obtain ⟨b, y, h1, h2, h3⟩ := edge e hx hp
    obtain ⟨c, z, h4, h5, h6⟩ := ih h1 h2
    exact ⟨c, z, h4, h5, pre h3 h6⟩
theorem ZtE {raw : List Cus} (hn : (raw.map Cus.name).Nodup) {a : Nat} {x : Cus} (hx : raw[a]? = some x) : Znu raw x.name ↔ Way (Adj raw) a a := by
  constructor
  · intro h
    obtain ⟨b, y, h1, h2, h3⟩ := Zz3 hn h hx rfl
    have : b = a := by
      have e1 := (Zi9 hn x.name b).2 ⟨y, h1, h2⟩
      have e2 := (Zi9 hn x.name a).2 ⟨x, hx, rfl⟩
      rw [e1] at e2
      exact Int.ofNat.inj e2
    rw [this] at h3
    exact h3
  · intro h
    exact Yav hn hx hx h
theorem ZwL (raw : List Cus) (hl : raw.length ≤ B) (u : List UInt8) : Zb8 (Zab C K0) true 17 [d44 raw, .str u] = some (.int .i64 (ZcG raw u 0)) := by
  obtain ⟨d, h1, h2⟩ := Ya5 Zjy [.l 39 raw, .s u] (raw, u) _ [d44 raw, .str u] _ rfl rfl (Zuh hl) rfl
  cases h1
  exact ZgP h2
theorem ZxA {l : List Val} (hl : Zak l ≤ B) (hc : ZaE l = 0) : Zb8 (Zab C K0) true 13 [.slc (l.map Val.enc)] = some (.tup [.slc ((ZfJ (Zbh l)).map DV.str), .int .i64 0]) := by
  have he : Zyc l = (ZfJ (Zbh l), 0) := by unfold Zyc; rw [if_neg (by simpa using hc)]
  obtain ⟨d, h1, h2⟩ := Zun Zjy YbW [.l 51 l] l (show List (List UInt8) × Int from (ZfJ (Zbh l), 0)) [.slc (l.map Val.enc)] _ rfl rfl (show Zqq l = some (ZfJ (Zbh l), 0) by rw [Zx5 hl, he]) rfl
  cases h1
  exact ZgP h2
section
variable {raw c : List Cus} {fr : Nat} {w0 : World} {ZbO : Own} {h0 : List AObj}
def OI (raw : List Cus) (fr : Nat) (m : Nat) (s : St) (q : Option (Value × List Int)) : Prop := ∃ v qs f, s = ⟨eA raw fr v, [], hS raw.length f⟩ ∧ q = some (v, qs.map Int.ofNat) ∧ Srch (Adj raw) fr raw.length qs f ∧
  (∀ x, x = fr ∨ f x = true → x ∈ qs ∨ Cl (Adj raw) fr f x) ∧ qs.length + un raw.length f = m
end
end Go.Tev.S1
namespace Go.Abs
theorem Zgg {C : Ctx} {call : Zaa} {fa : FA} {w0 : World} {ZbO : Own} {h0 : List AObj} {x y : Code} {st s : St} {q : Option (Value × List Int)} {Q : Out → Option (Value × List Int) → Prop} (hn : Za0 C.P) (hm : C.P.follows .mixedOrders = true) (hK : ZaY C.P call) {n : Nat}
    (hok : okC fa x = true) (h : evQ C call fa n x st = some (.norm s)) (h2 : TJ C fa w0 ZbO h0 y s q Q) : TJ C fa w0 ZbO h0 (.seq x y) st q Q :=
  Zgi (Q2 := fun o q' => o = .norm s ∧ q' = q) (Zyz hn hm hK hok h ⟨rfl, rfl⟩) (fun s' q' hs => by obtain ⟨h1, rfl⟩ := hs; cases h1; exact h2) (fun o q' h1 h2 => absurd h1.1 (h2 _))
end Go.Abs
namespace Go.Tev.S1
open Go.Abs Go.Proofs
section
variable {raw c : List Cus} {fr : Nat} {w0 : World} {ZbO : Own} {h0 : List AObj}
noncomputable abbrev Yex : FA := C.ann 26
structure Ins (raw : List Cus) (fr i : Nat) (us : List (List UInt8)) (k m : Nat) (qs : List Nat) (f : Nat → Bool) : Prop where
  s : Srch (Adj raw) fr raw.length qs f
  cl : ∀ x, x = fr ∨ f x = true → x = i ∨ x ∈ qs ∨ Cl (Adj raw) fr f x
  hi : i = fr ∨ f i = true
  dn : ∀ u ∈ us.take k, ∀ y : Nat, ZcG raw u 0 = (y : Int) → y ≠ fr ∧ f y = true
  ct : qs.length + un raw.length f = m
theorem Ins.next {i : Nat} {us : List (List UInt8)} {k m : Nat} {qs : List Nat} {f : Nat → Bool} (I : Ins raw fr i us k m qs f) {u : List UInt8} (hu : us[k]? = some u) (h : ∀ y : Nat, ZcG raw u 0 = (y : Int) → y ≠ fr ∧ f y = true) : Ins raw fr i us (k + 1) m qs f := by
  refine ⟨I.s, I.cl, I.hi, fun u' hu' y hy => ?_, I.ct⟩
  rw [List.take_add_one, hu] at hu'
  rcases List.mem_append.1 hu' with h1 | h1
  · exact I.dn u' h1 y hy
  · simp only [Option.toList_some, List.mem_singleton] at h1
    subst h1
    exact h y hy
theorem Ins.push {i : Nat} {us : List (List UInt8)} {k m : Nat} {qs : List Nat} {f : Nat → Bool} (I : Ins raw fr i us k m qs f) {y : Nat} (hy : y < raw.length) (hf : f y = false) (ha : Adj raw i y) : Ins raw fr i us k m (qs ++ [y]) (mark f y) := by
  refine ⟨⟨fun x hx => ?_, fun x hx => ?_⟩, fun x hx => ?_, I.hi.imp id Zir, fun u hu z hz => ⟨(I.dn u hu z hz).1, Zir (I.dn u hu z hz).2⟩, ?_⟩
  · rcases List.mem_append.1 hx with h | h
    · exact ⟨(I.s.lt x h).1, (I.s.lt x h).2.imp id Zir⟩
    · simp only [List.mem_singleton] at h
      subst h
      exact ⟨hy, .inr (Zxi f x)⟩
  · by_cases e : x = y
    · subst e
      rcases I.hi with h | h
      · subst h; exact .one ha
      · exact .snoc (I.s.way i h) ha
    · refine I.s.way x ?_
      unfold mark at hx
      rwa [if_neg e] at hx
  · by_cases e : x = y
    · exact .inr (.inl (List.mem_append.2 (.inr (by simp [e]))))
    · have hx' : x = fr ∨ f x = true := by
        unfold mark at hx
        rwa [if_neg e] at hx
      rcases I.cl x hx' with h | h | h
      · exact .inl h
      · exact .inr (.inl (List.mem_append.2 (.inl h)))
      · exact .inr (.inr h.mono)
  · have := Zxz hf hy
    have := I.ct
    rw [List.length_append, List.length_singleton]
    omega
def II' (raw : List Cus) (fr i : Nat) (us : List (List UInt8)) (m : Nat) (j : Nat) (s : St) (q : Option (Value × List Int)) : Prop := ∃ k v qs f, s = ⟨eE raw fr v i us k, [], hS raw.length f⟩ ∧ q = some (v, qs.map Int.ofNat) ∧ Ins raw fr i us k m qs f ∧ k ≤ us.length ∧ us.length - k = j
def QI (raw : List Cus) (fr i : Nat) (us : List (List UInt8)) (m : Nat) : Out → Option (Value × List Int) → Prop
  | .ret s, _ => (Zad s.env 4 = some (.val (.d (.bool true))) ∧ s.tmp = []) ∧ Way (Adj raw) fr fr
  | .exit 2 s, q => ∃ v qs f, s = ⟨eE raw fr v i us us.length ++ [(37, .val (.d (.bool false)))], [], hS raw.length f⟩ ∧ q = some (v, qs.map Int.ofNat) ∧ Ins raw fr i us us.length m qs f
  | _, _ => False
def QM (raw : List Cus) (fr i : Nat) (us : List (List UInt8)) (k m : Nat) : Out → Option (Value × List Int) → Prop
  | .ret s, _ => (Zad s.env 4 = some (.val (.d (.bool true))) ∧ s.tmp = []) ∧ Way (Adj raw) fr fr
  | .norm s, q => ∃ v qs f, s = ⟨eF raw fr v i us k, [], hS raw.length f⟩ ∧ q = some (v, qs.map Int.ofNat) ∧ Ins raw fr i us (k + 1) m qs f
  | _, _ => False
theorem ZrZ (raw : List Cus) (u : List UInt8) : ZcG raw u 0 = -1 ∨ ∃ y : Nat, ZcG raw u 0 = (y : Int) ∧ y < raw.length := by
  rcases Ztt raw u 0 with h | ⟨h1, h2⟩
  · exact .inl h
  · exact .inr ⟨(ZcG raw u 0).toNat, by omega, by omega⟩
theorem YdN (hl : raw.length ≤ B) {i : Nat} {x : Cus} (hx : raw[i]? = some x) {us : List (List UInt8)} (hus : ∀ u ∈ us, u ∈ Zbh x.val) {k m : Nat} {v : Value} {qs : List Nat} {f : Nat → Bool} (I : Ins raw fr i us k m qs f) {u : List UInt8} (hu : us[k]? = some u) (hq40 : qs.length ≤ 2 ^ 30) :
    TJ C Yex w0 ZbO h0 (.block 3 (.seq Zk1 (.seq (.seq ZlZ (.cond (.tmp 48) (.seq ZlD .ret) .skip)) (.seq ZiL (.cond (.tmp 57) (.seq ZlB Zck) .skip))))) ⟨eF raw fr v i us k, [], hS raw.length f⟩ (some (v, qs.map Int.ofNat)) (QM raw fr i us k m) := by
  obtain ⟨_, _, _, _, _, _, o10, o11, o12, o13, o14, _⟩ := ZzV
  have hadj : ∀ y : Nat, ZcG raw u 0 = (y : Int) → Adj raw i y := fun y hy => ⟨x, hx, u, hus u (List.mem_of_getElem? hu), hy⟩
  refine ZkU ?_
  refine Zgg (call := Zab C K0) Zae mixed Zah o10 (Zzg raw fr v i us k u hu _ _ (ZwL raw hl u)) ?_
  by_cases hz : ZcG raw u 0 = (fr : Int)
  · have hb : (ZcG raw u 0 == (fr : Int)) = true := by rw [hz]; simp
    have hw : Way (Adj raw) fr fr := by
      rcases I.hi with h | h
      · have := hadj fr hz; rw [h] at this; exact .one this
      · exact .snoc (I.s.way i h) (hadj fr hz)
    refine Zgi (Q2 := fun o _ => ∃ s, o = .ret s ∧ Zad s.env 4 = some (.val (.d (.bool true))) ∧ s.tmp = []) ?_ (fun s q' h => by obtain ⟨_, h, _⟩ := h; cases h) (fun o q' h h2 => ?_)
    · refine Zgg (call := Zab C K0) Zae mixed Zah o11 (ZsW raw fr v i us k _ _) ?_
      refine ZfL (b := true) (by rw [hb]; rfl) ?_
      simp only [cond_true]
      rw [hb]
      refine Zgg (call := Zab C K0) Zae mixed Zah o12 (ZyB raw fr v i us k _ _) ?_
      exact Zyz (call := Zab C K0) (n := 0) Zae mixed Zah rfl rfl ⟨_, rfl, rfl, rfl⟩
    · obtain ⟨s, rfl, h4⟩ := h
      exact ⟨h4, hw⟩
  · have hb : (ZcG raw u 0 == (fr : Int)) = false := by simpa using hz
    refine Zgi (Q2 := fun o q' => o = .norm ⟨eH raw fr v i us k (ZcG raw u 0), [], hS raw.length f⟩ ∧ q' = some (v, qs.map Int.ofNat)) ?_ (fun s q' h => ?_) (fun o q' h h2 => absurd h.1 (h2 _))
    · refine Zgg (call := Zab C K0) Zae mixed Zah o11 (ZsW raw fr v i us k _ _) ?_
      refine ZfL (b := false) (by rw [hb]; rfl) ?_
      simp only [cond_false]
      rw [hb]
      exact Zls ⟨rfl, rfl⟩
    · obtain ⟨h1, rfl⟩ := h
      cases h1
      rcases ZrZ raw u with hn | ⟨y, hy, hlt⟩
      · refine Zgg (call := Zab C K0) Zae mixed Zah o13 (Zx1 raw fr v i us k _ (by rw [hn]; decide) _) ?_
        refine ZfL (b := false) rfl ?_
        simp only [cond_false]
        refine Zls ⟨v, qs, f, rfl, rfl, I.next hu fun y hy => ?_⟩
        rw [hn] at hy; omega
      · rw [hy]
        have hne : y ≠ fr := fun h => hz (by rw [hy, h])
        refine Zgg (call := Zab C K0) Zae mixed Zah o13 (Zyd raw fr v i us k y f hlt) ?_
        cases hf : f y with
        | true =>
          refine ZfL (b := false) rfl ?_
          simp only [cond_false]
          refine Zls ⟨v, qs, f, rfl, rfl, I.next hu fun z hz => ?_⟩
          rw [hy] at hz
          have : z = y := by omega
          subst this
          exact ⟨hne, hf⟩
        | false =>
          refine ZfL (b := true) rfl ?_
          simp only [cond_true, Bool.not_false]
          refine Zgg (call := Zab C K0) Zae mixed Zah o14 (ZyS raw fr v i us k y f hlt) ?_
          rw [q26_15.1]
          obtain ⟨g1, g2, g3⟩ := Yei
          have hp := YdU (call := Zab C K0) (all := (opsL Zck).take 3 ++ nth Zck 3 :: (opsL Zck).drop 4) raw fr v i us k (y : Int) (hS raw.length (mark f y))
          refine ZgX (call := Zab C K0) Zae Zah q26_15.2 hp g1 (YbD (n := (y : Int)) g3 rfl rfl rfl g2 rfl rfl Yd7 (rm78 (by rw [List.length_map]; omega)) eo78 rfl rfl) ?_
          rintro s q' ⟨v', rfl, rfl⟩
          obtain ⟨tm, ht⟩ := Yef (call := Zab C K0) (all := (opsL Zck).take 3 ++ nth Zck 3 :: (opsL Zck).drop 4) raw fr v v' i us k (y : Int) (hS raw.length (mark f y))
          refine ⟨_, ht, v', qs ++ [y], mark f y, rfl, by rw [List.map_append]; rfl, (I.push hlt hf (hadj y hy)).next hu fun z hz => ?_⟩
          rw [hy] at hz
          have : z = y := by omega
          subst this
          exact ⟨hne, Zxi f z⟩
theorem Zyr (hl : raw.length ≤ 64) {i : Nat} {x : Cus} (hx : raw[i]? = some x) {us : List (List UInt8)} (hus : ∀ u ∈ us, u ∈ Zbh x.val) (hul : us.length < 2 ^ 40) {m : Nat} (hm : m ≤ 2 ^ 30) {v : Value} {qs : List Nat} {f : Nat → Bool} (I : Ins raw fr i us 0 m qs f) :
    TJ C Yex w0 ZbO h0 (.loop (.seq (.seq Zur (.cond (.tmp 37) .skip (.exit 2))) (.seq (.block 3 (.seq Zk1 (.seq (.seq ZlZ (.cond (.tmp 48) (.seq ZlD .ret) .skip)) (.seq ZiL (.cond (.tmp 57) (.seq ZlB Zck) .skip))))) ZuG))) ⟨eE raw fr v i us 0, [], hS raw.length f⟩ (some (v, qs.map Int.ofNat)) (QI raw fr i us m) := by
  obtain ⟨_, _, _, _, o8, o9, _⟩ := ZzV
  refine ZxS (II' raw fr i us m) (n := us.length) ⟨0, v, qs, f, rfl, rfl, I, Nat.zero_le _, rfl⟩ ?_
  rintro j s q1 ⟨k, v, qs, f, rfl, rfl, I, hk, rfl⟩
  by_cases hlt : k < us.length
  · refine Zgi (Q2 := fun o q' => o = .norm ⟨eF raw fr v i us k, [], hS raw.length f⟩ ∧ q' = some (v, qs.map Int.ofNat)) ?_ (fun s q' h => ?_) (fun o q' h h2 => absurd h.1 (h2 _))
    · refine Zgg (call := Zab C K0) Zae mixed Zah o8 (Zxe raw fr v i us k _) ?_
      rw [decide_eq_true hlt]
      refine ZfL (b := true) rfl ?_
      exact Zls ⟨rfl, rfl⟩
    · obtain ⟨h1, rfl⟩ := h
      cases h1
      have hu := List.getElem?_eq_getElem hlt
      refine Zgi (Q2 := QM raw fr i us k m) (YdN (Nat.le_trans hl (by decide)) hx hus I hu (by have := I.ct; omega)) (fun s q' h => ?_) (fun o q' h h2 => ?_)
      · obtain ⟨v', qs', f', rfl, rfl, I'⟩ := h
        refine Zyz (call := Zab C K0) Zae mixed Zah o9 (YbH raw fr v' i us k (by omega) _) ?_
        refine ⟨us.length - (k + 1), _, by omega, ⟨k + 1, v', qs', f', rfl, rfl, I', hlt, rfl⟩, ⟨fun n sv hs => ?_, rfl, rfl⟩⟩
        exact ZaR hs
      · cases o with
        | norm s => exact absurd rfl (h2 s)
        | ret s => exact h
        | exit id s => exact h.elim
        | goto l s => exact h.elim
  · have hke : k = us.length := by omega
    subst hke
    refine Zgi (Q2 := fun o q' => o = .exit 2 ⟨eE raw fr v i us us.length ++ [(37, .val (.d (.bool false)))], [], hS raw.length f⟩ ∧ q' = some (v, qs.map Int.ofNat)) ?_ (fun s q' h => by cases h.1) (fun o q' h h2 => ?_)
    · refine Zgg (call := Zab C K0) Zae mixed Zah o8 (Zxe raw fr v i us us.length _) ?_
      rw [decide_eq_false hlt]
      refine ZfL (b := false) rfl ?_
      exact Zxy ⟨rfl, rfl⟩
    · obtain ⟨rfl, rfl⟩ := h
      exact ⟨v, qs, f, rfl, rfl, I⟩
abbrev QRR (raw : List Cus) (fr : Nat) : Out → Prop
  | .ret s => (Zad s.env 4 = some (.val (.d (.bool true))) ∧ s.tmp = []) ∧ Way (Adj raw) fr fr
  | .norm s => ∃ v f, s = ⟨eA raw fr v, [], hS raw.length f⟩ ∧ ¬ Way (Adj raw) fr fr
  | _ => False
theorem YdQ {v : Value} {h : List AObj} {l : List (Nat × SV)} : Sub ⟨eA raw fr v, [], h⟩ ⟨eA raw fr v ++ l, [], h⟩ := ⟨fun n sv hs => ZaR hs, rfl, rfl⟩
set_option maxRecDepth 4000 in
theorem outer {c : List Cus} (D : Dn raw c) (hfr : fr < raw.length) {m : Nat} {v : Value} {qs : List Nat} {f : Nat → Bool} (S : Srch (Adj raw) fr raw.length qs f) (hc : ∀ x, x = fr ∨ f x = true → x ∈ qs ∨ Cl (Adj raw) fr f x) (hm : qs.length + un raw.length f = m) (hmm : m ≤ 2 ^ 30) :
    TJ C Yex w0 ZbO h0 (.block 0 (.loop (.seq (.seq ZhB (.cond (.tmp 19) .skip (.exit 0)))
  (.block 1 (.seq Zgs (.seq Zgt (.seq Zw3 (.seq Zwm (.block 2 (.loop (.seq (.seq Zur (.cond (.tmp 37) .skip (.exit 2)))
    (.seq (.block 3 (.seq Zk1 (.seq (.seq ZlZ (.cond (.tmp 48) (.seq ZlD .ret) .skip)) (.seq ZiL (.cond (.tmp 57) (.seq ZlB Zck) .skip))))) ZuG)))))))))))) ⟨eA raw fr v, [], hS raw.length f⟩ (some (v, qs.map Int.ofNat)) (fun o _ => QRR raw fr o) := by
  have okr := ZzV
  obtain ⟨_, _, o6, o7, _⟩ := okr
  refine ZkU ?_
  refine ZxS (fun k s q => OI raw fr k s q ∧ k ≤ m) (n := m) ⟨⟨v, qs, f, rfl, rfl, S, hc, hm⟩, Nat.le_refl _⟩ ?_
  rintro j s q1 ⟨⟨v, qs, f, rfl, rfl, S, hc, hj⟩, hjm⟩
  have r3 : TJ C Yex w0 ZbO h0 (.seq ZhB (.cond (.tmp 19) .skip (.exit 0))) ⟨eA raw fr v, [], hS raw.length f⟩ (some (v, qs.map Int.ofNat)) (fun o q' => q' = some (v, qs.map Int.ofNat) ∧ (if 0 < qs.length then o = .norm ⟨eB raw fr v, [], hS raw.length f⟩ else o = .exit 0 ⟨eA raw fr v ++ [(19, .val (.d (.bool false)))], [], hS raw.length f⟩)) := by
    have hlen : (qs.map Int.ofNat).length = qs.length := List.length_map _
    refine Zgi (Q2 := fun o q' => o = .norm ⟨eA raw fr v ++ [(19, .val (.d (.bool (decide (0 < qs.length)))))], [], hS raw.length f⟩ ∧ q' = some (v, qs.map Int.ofNat)) ?_ (fun s q' h => ?_) (fun o q' h h2 => absurd h.1 (h2 _))
    · rw [q26_3.1]
      refine ZgX (call := Zab C K0) Zae Zah q26_3.2 (YeV raw fr v _) Yfe (ZsO (call := Zab C K0) Zae Zah (u := 17) rfl (YeO raw fr v _ _)) ?_
      rintro s q' ⟨rfl, rfl⟩
      refine ⟨_, YeI raw fr v _ _, ?_, rfl⟩
      rw [hlen]
    · obtain ⟨h1, rfl⟩ := h
      cases h1
      by_cases h0' : 0 < qs.length
      · rw [decide_eq_true h0']
        refine ZfL (b := true) rfl ?_
        exact Zls ⟨rfl, by rw [if_pos h0']; rfl⟩
      · rw [decide_eq_false h0']
        refine ZfL (b := false) rfl ?_
        exact Zxy ⟨rfl, by rw [if_neg h0']⟩
  refine Zgi r3 (fun s q' h => ?_) (fun o q' h h2 => ?_)
  · obtain ⟨rfl, h⟩ := h
    split at h
    case isFalse => cases h
    case isTrue hpos =>
      cases h
      rcases qs with _ | ⟨i, r⟩
      · simp at hpos
      have hil := (S.lt i List.mem_cons_self).1
      have hin := (S.lt i List.mem_cons_self).2
      have hx := List.getElem?_eq_getElem hil
      generalize raw[i] = x at hx
      have hxm := List.mem_of_getElem? hx
      refine ZkU ?_
      refine Zgi (Q2 := fun o q' => o = .norm ⟨eC raw fr v i, [], hS raw.length f⟩ ∧ q' = some (v, (i :: r).map Int.ofNat)) ?_ (fun s q' h => ?_) (fun o q' h h2 => absurd h.1 (h2 _))
      · rw [q26_4.1]
        refine ZgX (call := Zab C K0) Zae Zah q26_4.2 (Ye8 raw fr v _) Yff (ZsO (call := Zab C K0) Zae Zah (u := 20) rfl (YeU raw fr v (i : Int) (r.map Int.ofNat) _)) ?_
        rintro s q' ⟨rfl, rfl⟩
        obtain ⟨tm, ht⟩ := Yfj (call := Zab C K0) (all := (opsL Zgs).take 1 ++ nth Zgs 1 :: (opsL Zgs).drop 2) raw fr v i (r.map Int.ofNat) (hS raw.length f)
        exact ⟨_, ht, rfl, rfl⟩
      obtain ⟨h1, rfl⟩ := h
      cases h1
      refine Zgi (Q2 := fun o q' => ∃ v', o = .norm ⟨eC raw fr v' i, [], hS raw.length f⟩ ∧ q' = some (v', r.map Int.ofNat)) ?_ (fun s q' h => ?_) (fun o q' h h2 => absurd h.choose_spec.1 (h2 _))
      · rw [q26_5.1]
        obtain ⟨g1, g2, g3⟩ := YeA
        refine ZgX (call := Zab C K0) Zae Zah q26_5.2 (Ye9 raw fr v i _) g1 (Yay (n := (i : Int)) (r := r.map Int.ofNat) (i := (C.P.info? 3).getD default) (e := 3) g3 g2 rfl (by kernel_rfl) (by kernel_rfl) (by kernel_rfl) rfl rfl) ?_
        rintro s q' ⟨v', rfl, rfl⟩
        obtain ⟨tm, ht⟩ := Ye0 (call := Zab C K0) (all := (opsL Zgt).take 1 ++ nth Zgt 1 :: (opsL Zgt).drop 2) raw fr v v' i (hS raw.length f)
        exact ⟨_, ht, v', rfl, rfl⟩
      obtain ⟨v', h1, rfl⟩ := h
      cases h1
      have hus : ∀ u ∈ ZfJ (Zbh x.val), u ∈ Zbh x.val := fun u hu => ((Zjx _).2 u).1 hu
      have hul : (ZfJ (Zbh x.val)).length < 2 ^ 40 := Nat.lt_of_le_of_lt (Nat.le_trans (Zw2 _) (Nat.le_trans (ZiQ _) (D.tot hxm))) (by decide)
      have I : Ins raw fr i (ZfJ (Zbh x.val)) 0 (r.length + un raw.length f) r f := by
        refine ⟨⟨fun z hz => S.lt z (List.mem_cons_of_mem _ hz), S.way⟩, fun z hz => ?_, hin, fun u hu => by simp at hu, rfl⟩
        rcases hc z hz with h | h
        · rcases List.mem_cons.1 h with h | h
          · exact .inl h
          · exact .inr (.inl h)
        · exact .inr (.inr h)
      refine Zgg (call := Zab C K0) Zae mixed Zah o6 (YbF raw fr v' i x hx (ZfJ (Zbh x.val)) _ (ZxA (D.tot hxm) (D.chk hxm))) ?_
      refine Zgg (call := Zab C K0) Zae mixed Zah o7 (Ydh raw fr v' i _ _) ?_
      refine ZkU ?_
      simp only [List.length_cons] at hj
      refine Ybr (Zyr D.le hx hus hul (by omega) I) fun o q' h => ?_
      cases o with
      | norm s => exact h.elim
      | goto l s => exact h.elim
      | ret s => exact h
      | exit id s =>
        by_cases e : id = 2
        · subst e
          obtain ⟨v2, qs2, f2, rfl, rfl, I2⟩ := h
          refine ⟨qs2.length + un raw.length f2, ⟨eA raw fr v2, [], hS raw.length f2⟩, by have := I2.ct; omega, ⟨⟨v2, qs2, f2, rfl, rfl, I2.s, fun z hz => ?_, rfl⟩, by have := I2.ct; omega⟩, YdQ⟩
          rcases I2.cl z hz with h | h | h
          · subst h
            refine .inr fun y ⟨x', h1, u, hu, hy⟩ => ?_
            rw [hx] at h1; cases h1
            exact I2.dn u (by rw [List.take_length]; exact ((Zjx _).2 u).2 hu) y hy
          · exact .inl h
          · exact .inr h
        · have : QI raw fr i (ZfJ (Zbh x.val)) (r.length + un raw.length f) (.exit id s) q' = False := by
            unfold QI
            split
            · rename_i heq; cases heq
            · rename_i heq; cases heq; exact absurd rfl e
            · rfl
          rw [this] at h
          exact h.elim
  · obtain ⟨rfl, h⟩ := h
    split at h
    · exact absurd h (h2 _)
    · rename_i hpos
      subst h
      have hq : qs = [] := List.eq_nil_of_length_eq_zero (by omega)
      subst hq
      refine ⟨v, f, rfl, ZzU (f := f) fun z hz => ?_⟩
      rcases hc z hz with h | h
      · cases h
      · exact h
theorem ZxE : ∀ n, un n (fun _ => false) = n
  | 0 => rfl
  | n + 1 => by rw [un, ZxE n]; rfl
end
set_option maxRecDepth 4000 in
open Classical in
theorem ZrK {raw c : List Cus} (D : Dn raw c) {fr : Nat} {x : Cus} (hx : raw[fr]? = some x) : Has Tryz.prog 26 [.d (d44 raw), .d (.int .i64 fr)] [] (.d (.bool (decide (Znu raw x.name)))) [] := by
  obtain ⟨o0, o1, _, _, _, _, _, _, _, _, _, o16⟩ := ZzV
  have hfr : fr < raw.length := (List.getElem?_eq_some_iff.1 hx).1
  have h : HasN Tryz.prog 26 [.d (d44 raw), .d (.int .i64 fr)] [] (fun r h' => r = .d (.bool (decide (Znu raw x.name)))) := by
    refine ZeK (C := C) (f := 26) (fn := Tryz.f26) Tryz.func26 Ybh (by kernel_rfl) ?_
    refine ZaO (call := Zab C K0) Zae mixed Zah o0 (YcL raw fr) ?_
    refine ZaO (call := Zab C K0) Zae mixed Zah o1 (YcY raw fr (Nat.le_trans D.le (by decide))) ?_
    refine Zxv fun w0 ZbO => ?_
    refine Zgi (Q2 := fun o q' => ∃ v', o = .norm ⟨eA raw fr v', [], hS raw.length fun _ => false⟩ ∧ q' = some (v', [(fr : Int)])) ?_ (fun s q' h => ?_) (fun o q' h h2 => absurd h.choose_spec.1 (h2 _))
    · rw [q26_2.1]
      obtain ⟨g1, g2, g3⟩ := Yfk
      refine ZgX (call := Zab C K0) Zae Zah q26_2.2 (Yfb raw fr _) g1 (Yb4 (n := (fr : Int)) g3 g2 (Yfc raw fr _) rfl rfl) ?_
      rintro s q' ⟨v', rfl, rfl⟩
      exact ⟨_, YeL raw fr v' _, v', rfl, rfl⟩
    · obtain ⟨v', h1, rfl⟩ := h
      cases h1
      have S0 : Srch (Adj raw) fr raw.length [fr] (fun _ => false) := ⟨fun z hz => by simp only [List.mem_singleton] at hz; subst hz; exact ⟨hfr, .inl rfl⟩, fun z hz => by cases hz⟩
      refine Zgi (outer D hfr (qs := [fr]) S0 (fun z hz => .inl (by rcases hz with h | h; exact List.mem_singleton.2 h; cases h)) rfl (by rw [ZxE]; have := D.le; simp; omega)) (fun s q' h => ?_) (fun o q' h h2 => ?_)
      · obtain ⟨v, f, rfl, hw⟩ := h
        refine Zgg (call := Zab C K0) Zae mixed Zah o16 (Zze raw fr v _) ?_
        refine Zyz (call := Zab C K0) (n := 0) Zae mixed Zah rfl rfl ?_
        refine ⟨[.d (.bool false)], rfl, ?_⟩
        rw [decide_eq_false (fun hp => hw ((ZtE D.nd hx).1 hp))]
        rfl
      · cases o with
        | norm s => exact absurd rfl (h2 s)
        | ret s =>
          refine ⟨[.d (.bool true)], ?_, ?_⟩
          · show Zcj C s [.tmp 4] = _
            simp only [Zcj, opA, opd, opx, h.1.1, h.1.2, Zad, XV.flat, Option.map_some]
          · rw [decide_eq_true ((ZtE D.nd hx).2 h.2)]
            rfl
        | exit id s => exact h.elim
        | goto l s => exact h.elim
  refine HasN.frozen (ds := [d44 raw, .int .i64 fr]) h ?_
  rintro r h' rfl
  exact ⟨0, rfl⟩
end Go.Tev.S1
namespace Go.Tev
open Go.Abs
theorem Zwi {X : Nat → Type} {t u : Nat} {vs ws : List (TV X)} (h : Zc0 [.ty t, .ty u] vs = some ws) : ∃ v v2, vs = [v, v2] ∧ ws = [v, v2] := by
  cases vs with
  | nil => simp [Zc0] at h
  | cons v vs =>
    simp only [Zc0] at h
    split at h
    · rename_i ws' h2
      cases h
      cases vs with
      | nil => simp [Zc0] at h2
      | cons v2 vs =>
        simp only [Zc0] at h2
        split at h2
        · rename_i ws2 h3
          cases h2
          cases vs with
          | nil => simp only [Zc0] at h3; cases h3; exact ⟨v, v2, rfl, rfl⟩
          | cons v3 vs => simp [Zc0] at h3
        · cases h2
    · cases h
end Go.Tev
namespace Go.Tev.S1
open Go.Abs Go.Proofs
def YbX (a : List Cus × Int) : Prop := ZhI a.1 ∧ a.1.length ≤ 64 ∧ namL none a.1 = true ∧ ZsN a.1 = 0 ∧ 0 ≤ a.2 ∧ a.2 < a.1.length
open Classical in
noncomputable def ZuP (a : List Cus × Int) : Option Bool := if YbX a then some (decide (∃ x, a.1[a.2.toNat]? = some x ∧ Znu a.1 x.name)) else none
open Classical in
theorem ZwR {raw : List Cus} {c : List Cus} (D : Dn raw c) {i : Nat} {x : Cus} (hx : raw[i]? = some x) : ZuP (raw, (i : Int)) = some (decide (Znu raw x.name)) := by
  have hi : i < raw.length := (List.getElem?_eq_some_iff.1 hx).1
  unfold ZuP
  rw [if_pos (show YbX (raw, (i : Int)) from ⟨D.ok, D.le, D.nam, D.err, by simp, by simpa using hi⟩)]
  congr 1
  have : (∃ y, raw[(i : Int).toNat]? = some y ∧ Znu raw y.name) ↔ Znu raw x.name := by
    rw [show (i : Int).toNat = i from rfl, hx]
    exact ⟨fun ⟨y, h1, h2⟩ => by cases h1; exact h2, fun h => ⟨x, rfl, h⟩⟩
  exact decide_eq_decide.2 this
open Classical in
noncomputable def YdF (args : List AV) (h : List AObj) : Option (AV × List AObj) := if e : ∃ a : (List Cus × Int) × Bool, args = [.d (d44 a.1.1), .d (.int .i64 a.1.2)] ∧ h = [] ∧ ZuP a.1 = some a.2 then some (.d (.bool e.choose.2), []) else none
theorem ZyI {args : List AV} {h : List AObj} {r : AV} {h' : List AObj} (he : YdF args h = some (r, h')) : Has Tryz.prog 26 args h r h' := by
  unfold YdF at he
  split at he
  · rename_i e
    obtain ⟨h1, h2, h3⟩ := e.choose_spec
    generalize e.choose = a at he h1 h3
    cases he
    subst h1 h2
    obtain ⟨⟨raw, fr⟩, b⟩ := a
    simp only at h3
    unfold ZuP at h3
    split at h3
    · rename_i hok
      obtain ⟨k1, k2, k3, k4, k5, k6⟩ := hok
      simp only at k1 k2 k3 k4 k5 k6
      obtain ⟨i, rfl⟩ := Int.eq_ofNat_of_zero_le k5
      have hi : i < raw.length := by omega
      have D : Dn raw (Ze7 raw (ZcC raw)) := ⟨k1, k2, k3, k4, rfl⟩
      have hx := List.getElem?_eq_getElem hi
      have := ZrK D hx
      have e2 := ZwR D hx
      unfold ZuP at e2
      rw [if_pos (show YbX (raw, (i : Int)) from ⟨k1, k2, k3, k4, k5, k6⟩)] at e2
      have e3 := h3.symm.trans e2
      rw [Option.some.inj e3]
      exact this
    · cases h3
  · cases he
theorem Ycw {a : List Cus × Int} {r : Bool} (h : ZuP a = some r) : YdF [.d (d44 a.1), .d (.int .i64 a.2)] [] = some (.d (.bool r), []) := by
  have e : ∃ b : (List Cus × Int) × Bool, [AV.d (d44 a.1), AV.d (.int .i64 a.2)] = [.d (d44 b.1.1), .d (.int .i64 b.1.2)] ∧ ([] : List AObj) = [] ∧ ZuP b.1 = some b.2 := ⟨(a, r), rfl, rfl, h⟩
  unfold YdF
  rw [dif_pos e]
  obtain ⟨h1, _, h3⟩ := e.choose_spec
  have hb : a = e.choose.1 := by
    obtain ⟨g1, g2⟩ := List.cons.inj h1
    exact Prod.ext (Zwq (AV.d.inj g1)) (DV.int.inj (AV.d.inj (List.cons.inj g2).1)).2
  have h4 : ZuP a = some e.choose.2 := (congrArg ZuP hb).trans h3
  rw [h] at h4
  rw [← Option.some.inj h4]
noncomputable def KR (K : Zaa) : Zaa := fun f args h => bif Nat.beq f 26 then YdF args h else K f args h
theorem YeK {K : Zaa} (hK : ZaY Tryz.prog K) : ZaY Tryz.prog (KR K) := by
  intro f args h r h' he
  unfold KR at he
  cases hb : Nat.beq f 26 with
  | false => rw [hb] at he; exact hK _ _ _ _ _ he
  | true =>
    rw [hb, cond_true] at he
    have := Nat.eq_of_beq_eq_true hb
    subst this
    exact ZyI he
theorem YbV {K : Zaa} (hK : Zcu K) : Zcu (KR K) := by
  intro f args h hf
  unfold KR
  rw [show Nat.beq f 26 = false from beq_ne.2 fun e => hf (by subst e; decide)]
  exact hK f args h hf
noncomputable abbrev Kz : Zaa := K2 (KR K1)
theorem Ye6 : ZaY Tryz.prog Kz := YeC (YeK Ye7)
theorem ZeF : Zcu Kz := Yb6 (YbV YbU)
theorem Zyu : Zaj U (Zab C Kz) 43 ⟨true, [.ty 23], [23], ZlK⟩ := ZrQ (t := 23) (rt := 23) fun a r h => by
  have h : ZlK a = some r := h
  unfold ZlK at h
  split at h
  · rename_i hc
    cases h
    exact Yc5 (F := fun raw => (raw.map Cus.name).Nodup ∧ ZhI raw) (fun raw => .slc ((Ze7 raw (ZcC raw)).map Cus.enc)) hc
  · cases h
theorem Ydb : Zaj U (Zab C Kz) 16 ⟨true, [.ty 23], [23, 28], ZpV⟩ :=
  Zkt (kf ZeF 16 (by decide)) _ _ _ (ZwG ZeF) Zyu (ZdO (kf ZeF 33 (by decide)) (kf ZeF 52 (by decide)) (kf ZeF 66 (by decide))) _ fun a r h => by
    unfold ZpV at h
    split at h
    · rename_i h3; cases h; exact ⟨_, Zsz a h3⟩
    · cases h
theorem ZwE : Zaj U (Zab C Kz) 26 ⟨true, [.ty 23, .ty 3], [4], ZuP⟩ := by
  intro vs a r ds g hp hd hs hr
  obtain ⟨a, rfl⟩ : ∃ b : List Cus × Int, b = a := ⟨a, rfl⟩
  have hp : Zux U [.ty 23, .ty 3] vs = some a := hp
  unfold Zux at hp
  split at hp
  · rename_i ws hws
    obtain ⟨v, v2, rfl, rfl⟩ := Zwi hws
    have h1 := ZjO (x := ⟨C, U, [], [], fun _ => []⟩) ok [23, 3] [v, v2] a (fun y => [.l 39 (show List Cus from y.1), .i .i64 (show Int from y.2)]) hp rfl
    have h2 : dvL U [v, v2] = some [d44 a.1, .int .i64 a.2] := h1.symm
    rw [h2] at hd
    cases hd
    have hr : U.inj 4 = some g := hr
    have hs : ZuP a = some r := hs
    refine ⟨_, ok.inj _ _ r hr, ?_⟩
    have : Zab C Kz 26 [.d (d44 a.1), .d (.int .i64 a.2)] [] = some (.d (.bool r), []) := Zf0 (show Kz 26 _ _ = _ from Ycw hs)
    unfold Zb8
    simp only [List.map_cons, List.map_nil, this]
    rfl
  · cases hp
end Go.Tev.S1
