/- A certified evaluator for the walked functions, and their contracts, for VarsReplaces. -/
import Derived.Test.YtnmlodkomklpfaaLE
import Derived.Test.YtnmlodkomklpfaaChecked
import Derived.KernelRfl
import Derived.Test.YtnmlodkomklpfaaLG
set_option linter.unusedVariables false
set_option linter.unusedSimpArgs false
namespace Go.Abs
open Go.Proofs

/-- which slots are kept, taken, on the heap, frozen, lent (by AnnOf, at run time) -/
def ann : FuncId → FA
  | 2 => ⟨1, [], [], [], [0], []⟩
  | 3 => ⟨42, [0, 2, 3, 4, 5, 6, 7, 9], [], [], [9, 11, 14, 19, 24, 32, 34, 40], []⟩
  | 4 => ⟨91, [0, 1, 4, 5, 6, 7, 8, 9, 10, 11, 12, 13, 14, 15, 16, 17, 23], [], [], [19, 22, 25, 28, 33, 38, 43, 49, 55, 69, 79, 89], []⟩
  | 5 => ⟨45, [0, 2, 3, 4, 12, 29], [], [], [20, 36], []⟩
  | 6 => ⟨27, [0, 2, 3, 4, 8], [3], [], [22], []⟩
  | 7 => ⟨28, [0, 2, 3, 5, 6, 9, 12, 13, 14, 15, 16, 23], [], [], [11, 21, 27], []⟩
  | 8 => ⟨29, [0, 2, 3, 4, 5, 8, 11, 15, 25], [], [], [10, 23, 28], []⟩
  | 9 => ⟨42, [0, 1, 4, 5, 10, 14, 41], [], [], [39], []⟩
  | 10 => ⟨35, [0, 2, 4, 12, 13, 14, 15, 16, 33], [], [], [10, 21, 26, 31], []⟩
  | 11 => ⟨42, [0, 2, 3, 11, 15, 41], [], [], [9, 23, 31, 39], []⟩
  | 12 => ⟨11, [0, 2], [], [], [4, 8], []⟩
  | 13 => ⟨27, [0, 2, 3, 4, 8], [3], [], [22], []⟩
  | 14 => ⟨12, [0, 2, 3, 4, 8], [], [], [6, 11], []⟩
  | 15 => ⟨12, [0, 2, 3, 4, 8], [], [], [6, 11], []⟩
  | 16 => ⟨18, [0, 2, 3, 4, 5, 9], [], [], [7, 14, 16, 17], []⟩
  | 17 => ⟨13, [0, 2, 3, 4, 8], [], [], [6, 11, 12], []⟩
  | 18 => ⟨24, [0, 1, 4, 5, 6, 7, 11, 16], [], [], [9, 14, 20, 21], [21]⟩
  | 19 => ⟨23, [0, 1, 4, 5, 6, 7, 11, 16], [], [], [9, 14, 20], []⟩
  | 20 => ⟨26, [0, 1, 4, 5, 10, 14, 25], [], [], [], []⟩
  | 21 => ⟨42, [0, 1, 4, 5, 10, 14, 41], [], [], [39], []⟩
  | 22 => ⟨47, [0, 1, 4, 5, 6, 15], [], [], [43], []⟩
  | 23 => ⟨25, [0, 2, 3, 5, 6, 7, 8, 9, 21], [], [], [14], []⟩
  | 24 => ⟨17, [0, 2, 3, 6, 10, 14], [], [], [5], []⟩
  | 25 => ⟨118, [0, 2, 3, 4, 5, 6, 7, 9, 11, 12, 13, 14, 16, 17, 18, 19, 21, 22, 23, 30, 32, 36, 39, 40, 41, 42, 53, 60, 62, 71, 72, 89, 95, 96, 97, 98, 108], [19], [], [25, 28, 58, 80, 87], [80]⟩
  | 26 => ⟨35, [0, 2, 3, 7, 34], [], [], [15], []⟩
  | 27 => ⟨13, [0, 2, 5, 9, 12], [], [], [4, 7, 11], []⟩
  | 28 => ⟨100, [0, 2, 3, 4, 5, 6, 7, 8, 9, 10, 11, 12, 13, 22, 35, 38, 51, 69, 89], [], [], [15, 80, 87, 98], []⟩
  | 29 => ⟨5, [0, 2], [], [], [4], []⟩
  | 30 => ⟨30, [0, 2, 3, 5, 6, 7, 8, 9], [], [], [25], []⟩
  | 31 => ⟨33, [0, 2, 3, 4, 8, 32], [], [], [22, 31], []⟩
  | 32 => ⟨37, [0, 2, 3, 4, 8], [], [], [33], []⟩
  | 33 => ⟨29, [0, 2, 3, 4, 8, 18], [], [], [17, 25], []⟩
  | 34 => ⟨32, [0, 1, 5, 6, 9, 10, 11, 12, 16, 24], [], [], [16, 19, 30], []⟩
  | 35 => ⟨9, [0, 2, 3], [], [], [5, 7], []⟩
  | 36 => ⟨4, [0, 1, 2], [], [1], [], []⟩
  | 37 => ⟨72, [0, 2, 3, 4, 5, 6, 10, 27, 44, 53], [3], [47], [], []⟩
  | 38 => ⟨43, [0, 2, 3, 4, 5, 11, 18, 29], [3], [], [18, 24, 40], []⟩
  | 39 => ⟨31, [0, 1, 4, 5, 6, 7, 8, 12, 15, 28], [], [], [11, 20, 24, 26], [11, 24]⟩
  | 40 => ⟨20, [0, 2, 3, 5, 7, 8, 9, 10], [], [], [], []⟩
  | 41 => ⟨33, [0, 1, 4, 5, 6, 7, 8, 9, 17, 23, 30], [], [], [13, 22, 26, 28], []⟩
  | 42 => ⟨15, [0, 2], [], [], [4], []⟩
  | 43 => ⟨71, [0, 1, 4, 5, 7, 8, 9, 10, 11, 12, 13, 42, 45], [], [], [23, 49], []⟩
  | 44 => ⟨52, [0, 2, 3, 5, 6, 8, 9, 10, 12, 13, 14, 15, 31, 32, 33, 34], [], [3, 9, 10], [28, 42], []⟩
  | 45 => ⟨16, [0, 2], [], [], [], []⟩
  | 46 => ⟨43, [0, 2, 3, 4, 5, 9, 28], [3], [], [26, 35], []⟩
  | 47 => ⟨59, [0, 1, 4, 5, 6, 10, 58], [], [], [19, 55], []⟩
  | 48 => ⟨90, [0, 2, 3, 4, 5, 6, 7, 8, 9, 10, 11, 18, 35, 45, 54, 59, 64, 82], [], [], [31, 43], []⟩
  | 49 => ⟨48, [0, 1, 3, 4, 5, 6, 10, 26, 42], [5], [], [], []⟩
  | 50 => ⟨9, [0, 1, 4], [], [], [7], []⟩
  | 51 => ⟨19, [0, 1, 2], [], [], [11, 17], []⟩
  | 52 => ⟨30, [0, 2, 3, 4, 5, 8, 9, 10, 11, 20], [], [], [], []⟩
  | 53 => ⟨33, [0, 2, 3, 4, 10, 24], [], [], [], []⟩
  | 54 => ⟨11, [0, 2, 3, 4, 6, 9], [], [], [], []⟩
  | 55 => ⟨34, [0, 1, 2, 3], [], [], [], []⟩
  | 56 => ⟨54, [0, 1, 2, 3, 4, 5, 6, 29, 38, 43], [], [], [9, 27, 37, 53], []⟩
  | 57 => ⟨5, [0, 2], [], [], [4], []⟩
  | 58 => ⟨11, [0, 2], [], [], [9, 10], []⟩
  | 59 => ⟨14, [0, 1, 3, 5, 7, 13], [], [], [12], []⟩
  | 60 => ⟨14, [0, 1, 2], [], [], [11], []⟩
  | 61 => ⟨89, [0, 1, 2, 3, 4, 5, 6, 7, 22, 47, 68, 74, 82], [], [], [45, 88], []⟩
  | 62 => ⟨67, [0, 1, 4, 5, 7, 8, 9, 10, 11, 12, 13, 14, 15, 16, 17, 22, 51, 55, 61], [], [], [21, 38, 41, 54, 59], [38, 59]⟩
  | 63 => ⟨53, [0, 1, 4, 5, 7, 8, 9, 11, 12, 13, 14, 15, 16, 21, 44], [5], [], [20, 28, 34, 49], [28, 49]⟩
  | 64 => ⟨96, [0, 1, 4, 5, 6, 7, 8, 9, 10, 11, 12, 13, 14, 15, 19, 27, 39, 73, 83, 91], [], [], [26, 35, 65, 71, 80, 87], []⟩
  | 65 => ⟨67, [0, 1, 4, 5, 6, 7, 8, 10, 14, 22, 52], [5], [], [21, 35, 44, 50, 59, 64], []⟩
  | 66 => ⟨8, [0, 1, 4], [], [], [7], []⟩
  | 67 => ⟨12, [0, 2, 3, 4, 6], [], [], [], []⟩
  | 68 => ⟨29, [0, 1, 2, 3, 5, 9, 11, 23], [], [], [28], []⟩
  | 69 => ⟨20, [0, 1, 4, 5, 9, 18], [], [], [], []⟩
  | 70 => ⟨19, [0, 1, 4, 5, 7, 8, 9, 16], [], [], [16], []⟩
  | 71 => ⟨17, [0, 2, 13], [], [], [], []⟩
  | 72 => ⟨25, [0, 2, 18], [], [], [4], []⟩
  | 73 => ⟨13, [0, 1, 2, 4, 5, 6, 7], [], [], [], []⟩
  | 74 => ⟨134, [0, 1, 2, 3, 8, 9, 10, 11, 12, 13, 14, 15, 16, 17, 18, 23, 29, 35, 50, 68, 72, 87, 113], [], [], [27, 33, 39, 46, 54, 72, 85, 92, 99, 121, 132], []⟩
  | 75 => ⟨8, [0, 2], [], [], [5, 7], []⟩
  | 76 => ⟨36, [0, 2, 13, 29], [], [], [], []⟩
  | 77 => ⟨18, [0, 1, 4], [], [], [], []⟩
  | 78 => ⟨49, [0, 1, 2, 6, 7, 12, 30], [], [], [29], []⟩
  | 79 => ⟨56, [0, 1, 2, 6, 7, 8, 9, 10, 19, 30], [], [], [26, 55], []⟩
  | 80 => ⟨65, [0, 1, 2, 6, 7, 8, 9, 10, 15, 33, 43], [], [7], [19, 36], []⟩
  | 81 => ⟨57, [0, 1, 2, 6, 7, 8, 9, 10, 11, 12, 32, 34, 49, 51, 54], [], [9], [37, 40, 43, 48], []⟩
  | 82 => ⟨32, [0, 1, 2, 6, 7, 13], [], [], [], []⟩
  | 83 => ⟨133, [0, 1, 2, 6, 7, 8, 9, 10, 14, 32, 37, 41, 61, 65, 78, 98, 103, 116], [], [], [30, 77, 115], []⟩
  | 84 => ⟨17, [0, 1, 4], [], [], [6, 9], []⟩
  | 85 => ⟨84, [0, 1, 2, 3, 8, 9, 10, 43, 59, 64], [], [], [41, 58], []⟩
  | 86 => ⟨168, [0, 1, 2, 3, 8, 9, 10, 11, 43, 60, 65, 112, 129, 134], [], [], [42, 58, 111, 127], []⟩
  | 87 => ⟨19, [0, 2, 4, 8], [], [], [], []⟩
  | 88 => ⟨25, [0, 2, 4, 8, 14], [], [], [], []⟩
  | 89 => ⟨76, [0, 1, 2, 3, 8, 9, 16, 36, 52], [], [], [35, 51], []⟩
  | 90 => ⟨7, [0, 2], [], [], [5], []⟩
  | 91 => ⟨33, [0, 2], [], [], [], []⟩
  | 92 => ⟨15, [0, 1, 2, 6], [], [], [14], []⟩
  | 93 => ⟨36, [0, 1, 2, 3, 4, 10], [], [], [16, 24, 32], []⟩
  | 94 => ⟨6, [0, 2], [], [], [], []⟩
  | 95 => ⟨28, [0, 1, 2, 3, 8, 9, 18], [], [], [18], []⟩
  | _ => ⟨0, [], [], [], [], []⟩
theorem A16 : (ann 16).nt = 18 ∧ (ann 16).keep = [0, 2, 3, 4, 5, 9] ∧ (ann 16).take = [] ∧ (ann 16).heapy = [] ∧ (ann 16).frz = [7, 14, 16, 17] ∧ (ann 16).lend = [] := ⟨rfl, rfl, rfl, rfl, rfl, rfl⟩
theorem A36 : (ann 36).nt = 4 ∧ (ann 36).keep = [0, 1, 2] ∧ (ann 36).take = [] ∧ (ann 36).heapy = [1] ∧ (ann 36).frz = [] ∧ (ann 36).lend = [] := ⟨rfl, rfl, rfl, rfl, rfl, rfl⟩
noncomputable def C : Ctx := ⟨Try.prog, ann⟩

def KFree (K : CallT) : Prop := ∀ (f : Nat) a h, f ∉ [25, 35, 44, 68] → K f a h = none
theorem Cann : C.ann = ann := rfl
theorem nat0 : ((0 : Nat) : Int) = 0 := rfl
theorem nbeq (a b : Nat) : Nat.beq a b = (a == b) := by rw [Bool.eq_iff_iff]; simp [Nat.beq_eq]
theorem nble (a b : Nat) : Nat.ble a b = decide (a ≤ b) := by rw [Bool.eq_iff_iff]; simp [Nat.ble_eq]
theorem nblt (a b : Nat) : Nat.blt a b = decide (a < b) := by rw [Bool.eq_iff_iff]; simp [Nat.blt_eq]
theorem idx_in {i n : Nat} (h : i < n) : idx (i : Int) n = some i := by unfold idx; rw [if_pos ⟨by omega, by omega⟩]; simp

/-! code, by its place -/
def loops : Code → List Code
  | .seq a b => loops a ++ loops b
  | .cond _ a b => loops a ++ loops b
  | .block _ c => loops c
  | .loop c => c :: loops c
  | .scope c => loops c
  | _ => []
def loopN (f : Func) (k : Nat) : Code := (loops (bodyOf f)).getD k .skip
abbrev wr (n : Int) : Int := IntKind.i64.wrap n
theorem wr_id {n : Int} (h1 : -(2 ^ 63) ≤ n) (h2 : n ≤ 2 ^ 63 - 1) : IntKind.i64.wrap n = n := by
  simp [IntKind.wrap, IntKind.signed, IntKind.bits]
  omega
theorem wr_succ {i n : Nat} (h : i < n) (hn : n ≤ 2 ^ 63 - 1) : IntKind.i64.wrap ((i : Int) + 1) = (i : Int) + 1 := wr_id (by omega) (by omega)

end Go.Abs
namespace Go.Tev.S1
open Go.Abs Go.Proofs
theorem hC (t : Nat) (h : (U.cells t).isSome = true) : C.isAgg t = some (isT t) := by
  by_cases h2 : t = 2
  · subst h2; kernel_rfl
  by_cases h3 : t = 3
  · subst h3; kernel_rfl
  by_cases h4 : t = 4
  · subst h4; kernel_rfl
  by_cases h5 : t = 5
  · subst h5; kernel_rfl
  by_cases h9 : t = 9
  · subst h9; kernel_rfl
  by_cases h22 : t = 22
  · subst h22; kernel_rfl
  by_cases h25 : t = 25
  · subst h25; kernel_rfl
  by_cases h33 : t = 33
  · subst h33; kernel_rfl
  by_cases h40 : t = 40
  · subst h40; kernel_rfl
  by_cases h53 : t = 53
  · subst h53; kernel_rfl
  by_cases h58 : t = 58
  · subst h58; kernel_rfl
  by_cases h60 : t = 60
  · subst h60; kernel_rfl
  by_cases h61 : t = 61
  · subst h61; kernel_rfl
  by_cases h70 : t = 70
  · subst h70; kernel_rfl
  by_cases h74 : t = 74
  · subst h74; kernel_rfl
  by_cases h78 : t = 78
  · subst h78; kernel_rfl
  by_cases h81 : t = 81
  · subst h81; kernel_rfl
  by_cases h83 : t = 83
  · subst h83; kernel_rfl
  by_cases h98 : t = 98
  · subst h98; kernel_rfl
  by_cases h102 : t = 102
  · subst h102; kernel_rfl
  change (cells t).isSome = true at h
  unfold cells at h
  split at h <;> first | (exfalso; contradiction) | (cases h; done)
theorem hZ (t : Nat) (cs : List (TV U.X)) (h : U.zcells t = some cs) : ∃ z, C.zero t = some z ∧ dvL U cs = some z.cells ∧ z.cellOk = true ∧ (C.isAgg t = some true → z = .agg z.cells) := by
  by_cases h2 : t = 2
  · subst h2; cases h; exact ⟨.int .i64 0, by kernel_rfl, rfl, rfl, fun h => by rw [hC 2 rfl] at h; cases h⟩
  by_cases h3 : t = 3
  · subst h3; cases h; exact ⟨.int .i64 0, by kernel_rfl, rfl, rfl, fun h => by rw [hC 3 rfl] at h; cases h⟩
  by_cases h4 : t = 4
  · subst h4; cases h; exact ⟨.bool false, by kernel_rfl, rfl, rfl, fun h => by rw [hC 4 rfl] at h; cases h⟩
  by_cases h5 : t = 5
  · subst h5; cases h; exact ⟨.int .u8 0, by kernel_rfl, rfl, rfl, fun h => by rw [hC 5 rfl] at h; cases h⟩
  by_cases h9 : t = 9
  · subst h9; cases h; exact ⟨.str [], by kernel_rfl, rfl, rfl, fun h => by rw [hC 9 rfl] at h; cases h⟩
  by_cases h22 : t = 22
  · subst h22; cases h; exact ⟨.slc [], by kernel_rfl, rfl, rfl, fun h => by rw [hC 22 rfl] at h; cases h⟩
  by_cases h25 : t = 25
  · subst h25; cases h; exact ⟨.int .i64 0, by kernel_rfl, rfl, rfl, fun h => by rw [hC 25 rfl] at h; cases h⟩
  by_cases h33 : t = 33
  · subst h33; cases h; exact ⟨.slc [], by kernel_rfl, rfl, rfl, fun h => by rw [hC 33 rfl] at h; cases h⟩
  by_cases h40 : t = 40
  · subst h40; cases h; exact ⟨.slc [], by kernel_rfl, rfl, rfl, fun h => by rw [hC 40 rfl] at h; cases h⟩
  by_cases h53 : t = 53
  · subst h53; cases h; exact ⟨.agg [.str [], .slc []], by kernel_rfl, rfl, rfl, fun h => rfl⟩
  by_cases h58 : t = 58
  · subst h58; cases h; exact ⟨.agg [.int .u8 0, .str [], .int .i64 0, .str [], .bool false], by kernel_rfl, rfl, rfl, fun h => rfl⟩
  by_cases h60 : t = 60
  · subst h60; cases h; exact ⟨.agg [.int .u8 0, .str [], .int .i64 0, .str [], .bool false, .slc []], by kernel_rfl, rfl, rfl, fun h => rfl⟩
  by_cases h61 : t = 61
  · subst h61; cases h; exact ⟨.nilm, by kernel_rfl, rfl, rfl, fun h => by rw [hC 61 rfl] at h; cases h⟩
  by_cases h70 : t = 70
  · subst h70; cases h; exact ⟨.nilm, by kernel_rfl, rfl, rfl, fun h => by rw [hC 70 rfl] at h; cases h⟩
  by_cases h74 : t = 74
  · subst h74; cases h; exact ⟨.agg [.int .i64 0, .int .i64 0, .bool false], by kernel_rfl, rfl, rfl, fun h => rfl⟩
  by_cases h78 : t = 78
  · subst h78; cases h; exact ⟨.slc [], by kernel_rfl, rfl, rfl, fun h => by rw [hC 78 rfl] at h; cases h⟩
  by_cases h81 : t = 81
  · subst h81; cases h; exact ⟨.slc [], by kernel_rfl, rfl, rfl, fun h => by rw [hC 81 rfl] at h; cases h⟩
  by_cases h83 : t = 83
  · subst h83; cases h; exact ⟨.slc [], by kernel_rfl, rfl, rfl, fun h => by rw [hC 83 rfl] at h; cases h⟩
  by_cases h98 : t = 98
  · subst h98; cases h; exact ⟨.nilm, by kernel_rfl, rfl, rfl, fun h => by rw [hC 98 rfl] at h; cases h⟩
  by_cases h102 : t = 102
  · subst h102; cases h; exact ⟨.slc [], by kernel_rfl, rfl, rfl, fun h => by rw [hC 102 rfl] at h; cases h⟩
  change zcells t = some cs at h
  unfold zcells at h
  split at h <;> first | (exfalso; contradiction) | (cases h; done)
theorem hD (t : Nat) (h : U.dok t = true) : C.zero t = some (U.enc t (U.dflt t)) := by
  by_cases h2 : t = 2
  · subst h2; first | (cases h; done) | kernel_rfl
  by_cases h3 : t = 3
  · subst h3; first | (cases h; done) | kernel_rfl
  by_cases h4 : t = 4
  · subst h4; first | (cases h; done) | kernel_rfl
  by_cases h5 : t = 5
  · subst h5; first | (cases h; done) | kernel_rfl
  by_cases h9 : t = 9
  · subst h9; first | (cases h; done) | kernel_rfl
  by_cases h22 : t = 22
  · subst h22; first | (cases h; done) | kernel_rfl
  by_cases h25 : t = 25
  · subst h25; first | (cases h; done) | kernel_rfl
  by_cases h33 : t = 33
  · subst h33; first | (cases h; done) | kernel_rfl
  by_cases h40 : t = 40
  · subst h40; first | (cases h; done) | kernel_rfl
  by_cases h53 : t = 53
  · subst h53; first | (cases h; done) | kernel_rfl
  by_cases h58 : t = 58
  · subst h58; first | (cases h; done) | kernel_rfl
  by_cases h60 : t = 60
  · subst h60; first | (cases h; done) | kernel_rfl
  by_cases h61 : t = 61
  · subst h61; first | (cases h; done) | kernel_rfl
  by_cases h70 : t = 70
  · subst h70; first | (cases h; done) | kernel_rfl
  by_cases h74 : t = 74
  · subst h74; first | (cases h; done) | kernel_rfl
  by_cases h78 : t = 78
  · subst h78; first | (cases h; done) | kernel_rfl
  by_cases h81 : t = 81
  · subst h81; first | (cases h; done) | kernel_rfl
  by_cases h83 : t = 83
  · subst h83; first | (cases h; done) | kernel_rfl
  by_cases h98 : t = 98
  · subst h98; first | (cases h; done) | kernel_rfl
  by_cases h102 : t = 102
  · subst h102; first | (cases h; done) | kernel_rfl
  change (tyB t).dok = true at h
  unfold tyB at h
  split at h <;> first | (exfalso; contradiction) | (cases h; done)
theorem hE (t : Nat) (f : U.X t → U.X t → Bool) (h : U.eqT t = some f) : C.P.eqGuardType C.P.depth t = false ∧ ∀ a b, U.enc t a = .agg (U.enc t a).cells ∧ dEqIn C 100 t (U.enc t a) (U.enc t b) = some (f a b) := by
  by_cases h58 : t = 58
  · subst h58; cases h; refine ⟨by kernel_rfl, fun a b => ⟨rfl, ?_⟩⟩
    have key : ∀ b0 b1 b2 b3 b4 : Bool, (bif b0 then bif b1 then bif b2 then bif b3 then bif b4 then some true else some false else some false else some false else some false else some false) = some (b0 && b1 && b2 && b3 && b4) := by decide
    exact (show _ = _ by kernel_rfl : dEqIn C 100 58 (U.enc 58 a) (U.enc 58 b) = (bif (a : Tok).k == (b : Tok).k then bif (a : Tok).t == (b : Tok).t then bif (a : Tok).n == (b : Tok).n then bif (a : Tok).u == (b : Tok).u then bif (a : Tok).f == (b : Tok).f then some true else some false else some false else some false else some false else some false)).trans (key _ _ _ _ _)
  by_cases h74 : t = 74
  · subst h74; cases h; refine ⟨by kernel_rfl, fun a b => ⟨rfl, ?_⟩⟩
    have key : ∀ b0 b1 b2 : Bool, (bif b0 then bif b1 then bif b2 then some true else some false else some false else some false) = some (b0 && b1 && b2) := by decide
    exact (show _ = _ by kernel_rfl : dEqIn C 100 74 (U.enc 74 a) (U.enc 74 b) = (bif (a : Fnd).d == (b : Fnd).d then bif (a : Fnd).t == (b : Fnd).t then bif (a : Fnd).b == (b : Fnd).b then some true else some false else some false else some false)).trans (key _ _ _)
  change eqT t = some f at h
  unfold eqT at h
  split at h <;> first | (exfalso; contradiction) | (cases h; done)
theorem ok : U.Ok C where
  inj := ok_inj
  prj := ok_prj
  pack := ok_pack
  cells := ok_cells
  csz := ok_csz
  ok := ok_ok
  noagg := ok_noagg C hC
  agg := ok_agg C hC
  zcells := hZ
  dok := hD
  keq := ok_keq
  noMap := ok_noMap
  eqT := hE
  bytes := ok_bytes
end Go.Tev.S1
namespace Go.Tev.S1
open Go.Abs Go.Proofs
-- 67 vitrine/nest.closer
def nest_closer  (n : Nat) (p0 : Int)  : Option Int :=
  cond (p0 == (2 : Int))
  (some (22 : Int))
  (Option.bind (some (cond (p0 == (21 : Int)) (p0 == (21 : Int)) (p0 == (23 : Int)))) fun m1 =>
  Option.bind (some (cond (p0 == (19 : Int)) (p0 == (19 : Int)) m1)) fun m2 =>
  cond m2
  (some (IntKind.u8.wrap (p0 + (1 : Int))))
  (some (0 : Int)))
abbrev nest_closer_T  : List (Nat × TCall X) := []
noncomputable abbrev nest_closer_x  : Cx := ⟨C, U, nest_closer_T , [], fun _ => []⟩
theorem nest_closer_ok : okF (C.ann 67) Try.f67 1 = true := by kernel_rfl
noncomputable abbrev nest_closer_sums  (n : Nat) : Sums (nest_closer_x ) (PX X [5]) := []
theorem nest_closer_e  (n : Nat) : ∀ a, fnL (nest_closer_x ) true 67 Try.f67 [.ty 5] [5] (nest_closer_sums  n) a = nest_closer  n a := by
  intro a
  kernel_rfl
theorem nest_closer_hT {K : CallT}    : CallsOk (nest_closer_x ) (callV C K) :=
  ⟨mall_nil, rall_nil⟩
theorem nest_closer_meets {K : CallT} (hK : ∀ args h, K 67 args h = none)    (t : PX X (AK.tys [.ty 5]) → Option (PX X [5])) (h : ∀ a r, t a = some r → ∃ n, nest_closer  n a = some r) : Meets U (callV C K) 67 ⟨true, [.ty 5], [5], t⟩ := by
  refine fnL_meets (x := nest_closer_x ) (ak := [.ty 5]) (rts := [5]) (dir := true) ok (nest_closer_hT  ) hK Try.func67 nest_closer_ok fun a r hr => ?_
  obtain ⟨n, hn⟩ := h a r hr
  exact ⟨n, nest_closer_sums  n, (laws_none (show loopsOf 0 (bodyOf Try.f67) = [] by kernel_rfl)), (nest_closer_e  n a).trans hn⟩
-- 54 vitrine/vitrineref04.Closer
def ref04_Closer  (n : Nat) (p0 : Int)  : Option Int :=
  cond (p0 == (19 : Int))
  (some (20 : Int))
  (Option.bind (some (cond (p0 == (21 : Int)) (p0 == (21 : Int)) (p0 == (2 : Int)))) fun m1 =>
  cond m1
  (some (22 : Int))
  (cond (p0 == (23 : Int))
  (some (24 : Int))
  (some (0 : Int))))
abbrev ref04_Closer_T  : List (Nat × TCall X) := []
noncomputable abbrev ref04_Closer_x  : Cx := ⟨C, U, ref04_Closer_T , [], fun _ => []⟩
theorem ref04_Closer_ok : okF (C.ann 54) Try.f54 1 = true := by kernel_rfl
noncomputable abbrev ref04_Closer_sums  (n : Nat) : Sums (ref04_Closer_x ) (PX X [5]) := []
theorem ref04_Closer_e  (n : Nat) : ∀ a, fnL (ref04_Closer_x ) true 54 Try.f54 [.ty 5] [5] (ref04_Closer_sums  n) a = ref04_Closer  n a := by
  intro a
  kernel_rfl
theorem ref04_Closer_hT {K : CallT}    : CallsOk (ref04_Closer_x ) (callV C K) :=
  ⟨mall_nil, rall_nil⟩
theorem ref04_Closer_meets {K : CallT} (hK : ∀ args h, K 54 args h = none)    (t : PX X (AK.tys [.ty 5]) → Option (PX X [5])) (h : ∀ a r, t a = some r → ∃ n, ref04_Closer  n a = some r) : Meets U (callV C K) 54 ⟨true, [.ty 5], [5], t⟩ := by
  refine fnL_meets (x := ref04_Closer_x ) (ak := [.ty 5]) (rts := [5]) (dir := true) ok (ref04_Closer_hT  ) hK Try.func54 ref04_Closer_ok fun a r hr => ?_
  obtain ⟨n, hn⟩ := h a r hr
  exact ⟨n, ref04_Closer_sums  n, (laws_none (show loopsOf 0 (bodyOf Try.f54) = [] by kernel_rfl)), (ref04_Closer_e  n a).trans hn⟩
-- 43 vitrine/nest.look
def nest_look_L0 (c_nest_closer : Int → Option Int) (c_nest_look : (List Val) × Int → Option Fnd) {R : Type} (n : Nat) (a1 : Int) (a10 : List Val) (a11 : Int) (kx0 : (Int × Int × Bool) → (Int × Int × Bool) → Option R)  (y4 : Int × Int × Bool) (y5 : Int × Int × Bool) (y12 : Int) (k : (Int × Int × Bool) → (Int × Int × Bool) → Int → Option R) : Option R :=
  cond (decide (y12 < a11))
  (Option.bind (getI a10 y12) fun x3 =>
  Option.bind (c_nest_closer x3.tok.k) fun r4 =>
  Option.bind (some (cond (a1 != (0 : Int)) (x3.tok.k == a1) false)) fun m5 =>
  Option.bind (cond (!m5) (some (cond (r4 == (0 : Int)) (decide ((x3.l.length : Int) > (0 : Int))) false)) (some (decide ((x3.l.length : Int) > (0 : Int))))) fun m6 =>
  Option.bind (some (cond m5 true m6)) fun m7 =>
  Option.bind (some (cond m7 y4.1 y4.1)) fun m8 =>
  Option.bind (some (cond m7 y4.2.1 y4.2.1)) fun m9 =>
  Option.bind (some (cond m7 y4.2.2 y4.2.2)) fun m10 =>
  Option.bind (some (cond m7 y5.1 y5.1)) fun m11 =>
  Option.bind (some (cond m7 (IntKind.i64.wrap (y5.2.1 + (1 : Int))) (IntKind.i64.wrap (y5.2.1 + (1 : Int))))) fun m12 =>
  Option.bind (some (cond m7 true y5.2.2)) fun m13 =>
  Option.bind (some (cond m7 x3.tok.k x3.tok.k)) fun m14 =>
  Option.bind (some (cond m7 x3.tok.t x3.tok.t)) fun m15 =>
  Option.bind (some (cond m7 x3.tok.n x3.tok.n)) fun m16 =>
  Option.bind (some (cond m7 x3.tok.u x3.tok.u)) fun m17 =>
  Option.bind (some (cond m7 x3.tok.f x3.tok.f)) fun m18 =>
  Option.bind (some (cond m7 x3.l x3.l)) fun m19 =>
  cond (r4 == (0 : Int))
  (k (m8, m9, m10) (m11, m12, m13) (IntKind.i64.wrap (y12 + (1 : Int))))
  (Option.bind (c_nest_look (m19, r4)) fun r20 =>
  Option.bind (some (cond m13 true r20.b)) fun m21 =>
  k (m8, m9, m10) ((if IntKind.i64.wrap (r20.d + (1 : Int)) > m11 then IntKind.i64.wrap (r20.d + (1 : Int)) else m11), IntKind.i64.wrap ((IntKind.i64.wrap (m12 + r20.t)) + (1 : Int)), m21) (IntKind.i64.wrap (y12 + (1 : Int)))))
  (kx0 (y4.1, y4.2.1, y4.2.2) (y5.1, y5.2.1, y5.2.2))
def nest_look (c_nest_closer : Int → Option Int) (c_nest_look : (List Val) × Int → Option Fnd) (n : Nat) (p0 : List Val) (p1 : Int)  : Option Fnd :=
  loop3 (nest_look_L0 c_nest_closer c_nest_look n p1 p0 (p0.length : Int) (fun z1 z2 =>
  some (Fnd.mk z2.1 z2.2.1 z2.2.2))) n ((0 : Int), (0 : Int), false) ((0 : Int), (0 : Int), false) (0 : Int)
abbrev nest_look_T (c_nest_closer : Int → Option Int) (c_nest_look : (List Val) × Int → Option Fnd) : List (Nat × TCall X) := [(67, ⟨true, [.ty 5], [5], c_nest_closer⟩), (43, ⟨true, [.ty 33, .ty 5], [74], c_nest_look⟩)]
noncomputable abbrev nest_look_x (c_nest_closer : Int → Option Int) (c_nest_look : (List Val) × Int → Option Fnd) : Cx := ⟨C, U, nest_look_T c_nest_closer c_nest_look, [], fun _ => []⟩
theorem nest_look_ok : okF (C.ann 43) Try.f43 2 = true := by kernel_rfl
abbrev nest_look_L0_D : LD := ⟨0, [.val 1 5, .val 10 33, .val 11 2], [.box 4 [2, 2, 4], .box 5 [2, 2, 4], .val 12 2], [(0, [.box 4 [2, 2, 4], .box 5 [2, 2, 4]])], []⟩
abbrev nest_look_L0_g (c_nest_closer : Int → Option Int) (c_nest_look : (List Val) × Int → Option Fnd) (n : Nat) : LG U (PX X [74]) nest_look_L0_D := fun c kx kr y k => nest_look_L0 c_nest_closer c_nest_look n c.1 c.2.1 c.2.2.1 (fun z0 z1 => kx 0 (z0, z1, ())) y.1 y.2.1 y.2.2.1 (fun z0 z1 z2 => k (z0, z1, z2, ()))
noncomputable abbrev nest_look_sums (c_nest_closer : Int → Option Int) (c_nest_look : (List Val) × Int → Option Fnd) (n : Nat) : Sums (nest_look_x c_nest_closer c_nest_look) (PX X [74]) := [(0, runL U nest_look_L0_D (nest_look_L0_g c_nest_closer c_nest_look n) n)]
theorem nest_look_L0_e (c_nest_closer : Int → Option Int) (c_nest_look : (List Val) × Int → Option Fnd) (n : Nat) : ∀ c kx kr y k1, evL (nest_look_x c_nest_closer c_nest_look) (ann 43) (nest_look_sums c_nest_closer c_nest_look n) 0 (loopOf (bodyOf Try.f43) 0) (kontL U nest_look_L0_D kx kr k1) (encS U nest_look_L0_D.cap nest_look_L0_D.din c y) = nest_look_L0_g c_nest_closer c_nest_look n c (fun i z => kx i c z) kr y (fun y2 => k1 c y2) := by
  intro c kx kr y k1
  kernel_rfl
theorem nest_look_e (c_nest_closer : Int → Option Int) (c_nest_look : (List Val) × Int → Option Fnd) (n : Nat) : ∀ a, fnL (nest_look_x c_nest_closer c_nest_look) true 43 Try.f43 [.ty 33, .ty 5] [74] (nest_look_sums c_nest_closer c_nest_look n) a = nest_look c_nest_closer c_nest_look n a.1 a.2 := by
  intro a
  kernel_rfl
theorem nest_look_hT {K : CallT} (c_nest_closer : Int → Option Int) (c_nest_look : (List Val) × Int → Option Fnd) (h0 : Meets U (callV C K) 67 ⟨true, [.ty 5], [5], c_nest_closer⟩) (h1 : Meets U (callV C K) 43 ⟨true, [.ty 33, .ty 5], [74], c_nest_look⟩)  : CallsOk (nest_look_x c_nest_closer c_nest_look) (callV C K) :=
  ⟨(mall_cons h0 (mall_cons h1 mall_nil)), rall_nil⟩
theorem nest_look_L0_law {K : CallT} (c_nest_closer : Int → Option Int) (c_nest_look : (List Val) × Int → Option Fnd) (h0 : Meets U (callV C K) 67 ⟨true, [.ty 5], [5], c_nest_closer⟩) (h1 : Meets U (callV C K) 43 ⟨true, [.ty 33, .ty 5], [74], c_nest_look⟩)  (n : Nat) (b0 : Base) (bn0 : b0.nr ≤ 0) : Law (nest_look_x c_nest_closer c_nest_look) b0 (callV C K) (ann 43) n (loopOf (bodyOf Try.f43) 0) (runL U nest_look_L0_D (nest_look_L0_g c_nest_closer c_nest_look n) n) :=
  law_of (x := nest_look_x c_nest_closer c_nest_look) (id := 0) ok (nest_look_hT c_nest_closer c_nest_look h0 h1) (sums := nest_look_sums c_nest_closer c_nest_look n) (laws_none (show loopsOf 0 (loopOf (bodyOf Try.f43) 0) = [] by kernel_rfl)) nest_look_L0_D bn0 (nest_look_L0_g c_nest_closer c_nest_look n) (nest_look_L0_e c_nest_closer c_nest_look n)
theorem nest_look_meets {K : CallT} (hK : ∀ args h, K 43 args h = none) (c_nest_closer : Int → Option Int) (c_nest_look : (List Val) × Int → Option Fnd) (h0 : Meets U (callV C K) 67 ⟨true, [.ty 5], [5], c_nest_closer⟩) (h1 : Meets U (callV C K) 43 ⟨true, [.ty 33, .ty 5], [74], c_nest_look⟩)  (t : PX X (AK.tys [.ty 33, .ty 5]) → Option (PX X [74])) (h : ∀ a r, t a = some r → ∃ n, nest_look c_nest_closer c_nest_look n a.1 a.2 = some r) : Meets U (callV C K) 43 ⟨true, [.ty 33, .ty 5], [74], t⟩ := by
  refine fnL_meets (x := nest_look_x c_nest_closer c_nest_look) (ak := [.ty 33, .ty 5]) (rts := [74]) (dir := true) ok (nest_look_hT c_nest_closer c_nest_look h0 h1) hK Try.func43 nest_look_ok fun a r hr => ?_
  obtain ⟨n, hn⟩ := h a r hr
  exact ⟨n, nest_look_sums c_nest_closer c_nest_look n, (laws_ids (ids := [0]) (by kernel_rfl) (by decide) (fun i hi => by
    simp only [List.mem_cons, List.not_mem_nil, or_false] at hi
    rcases hi with rfl
    · exact laws_one (c2 := loopOf (bodyOf Try.f43) 0) (by kernel_rfl) (by kernel_rfl) (nest_look_L0_law c_nest_closer c_nest_look h0 h1 _ _ (Nat.le_refl _))
    )), (nest_look_e c_nest_closer c_nest_look n a).trans hn⟩
-- 24 vitrine/nest.Check
def nest_Check (c_nest_look : (List Val) × Int → Option Fnd) (n : Nat) (p0 : List Val)  : Option Int :=
  Option.bind (c_nest_look (p0, (0 : Int))) fun r1 =>
  cond (decide (r1.d > (16 : Int)))
  (some (20 : Int))
  (cond (decide (r1.t > (1500 : Int)))
  (some (4 : Int))
  (cond r1.b
  (some (8 : Int))
  (some (0 : Int))))
abbrev nest_Check_T (c_nest_look : (List Val) × Int → Option Fnd) : List (Nat × TCall X) := [(43, ⟨true, [.ty 33, .ty 5], [74], c_nest_look⟩)]
noncomputable abbrev nest_Check_x (c_nest_look : (List Val) × Int → Option Fnd) : Cx := ⟨C, U, nest_Check_T c_nest_look, [], fun _ => []⟩
theorem nest_Check_ok : okF (C.ann 24) Try.f24 1 = true := by kernel_rfl
noncomputable abbrev nest_Check_sums (c_nest_look : (List Val) × Int → Option Fnd) (n : Nat) : Sums (nest_Check_x c_nest_look) (PX X [25]) := []
theorem nest_Check_e (c_nest_look : (List Val) × Int → Option Fnd) (n : Nat) : ∀ a, fnL (nest_Check_x c_nest_look) true 24 Try.f24 [.ty 33] [25] (nest_Check_sums c_nest_look n) a = nest_Check c_nest_look n a := by
  intro a
  kernel_rfl
theorem nest_Check_hT {K : CallT} (c_nest_look : (List Val) × Int → Option Fnd) (h0 : Meets U (callV C K) 43 ⟨true, [.ty 33, .ty 5], [74], c_nest_look⟩)  : CallsOk (nest_Check_x c_nest_look) (callV C K) :=
  ⟨(mall_cons h0 mall_nil), rall_nil⟩
theorem nest_Check_meets {K : CallT} (hK : ∀ args h, K 24 args h = none) (c_nest_look : (List Val) × Int → Option Fnd) (h0 : Meets U (callV C K) 43 ⟨true, [.ty 33, .ty 5], [74], c_nest_look⟩)  (t : PX X (AK.tys [.ty 33]) → Option (PX X [25])) (h : ∀ a r, t a = some r → ∃ n, nest_Check c_nest_look n a = some r) : Meets U (callV C K) 24 ⟨true, [.ty 33], [25], t⟩ := by
  refine fnL_meets (x := nest_Check_x c_nest_look) (ak := [.ty 33]) (rts := [25]) (dir := true) ok (nest_Check_hT c_nest_look h0) hK Try.func24 nest_Check_ok fun a r hr => ?_
  obtain ⟨n, hn⟩ := h a r hr
  exact ⟨n, nest_Check_sums c_nest_look n, (laws_none (show loopsOf 0 (bodyOf Try.f24) = [] by kernel_rfl)), (nest_Check_e c_nest_look n a).trans hn⟩
-- 33 vitrine/vitrineref04.Deep
def ref04_Deep_L0 (c_ref04_Closer : Int → Option Int) (c_ref04_Deep : (List Val) → Option Int) {R : Type} (n : Nat) (a0 : List Val) (a2 : Int) (kx0 : Int → Option R)  (y3 : Int) (y4 : Int) (k : Int → Int → Option R) : Option R :=
  cond (decide (y4 < (a0.length : Int)))
  (Option.bind (getI a0 y4) fun x2 =>
  Option.bind (c_ref04_Closer x2.tok.k) fun r3 =>
  Option.bind (cond (r3 != (0 : Int)) (getI a0 y4) (some zVal)) fun x4 =>
  Option.bind (cond (r3 != (0 : Int)) (c_ref04_Deep x4.l) (some (0 : Int))) fun r5 =>
  Option.bind (some (cond (r3 != (0 : Int)) (if IntKind.i64.wrap ((1 : Int) + r5) > y3 then IntKind.i64.wrap ((1 : Int) + r5) else y3) y3)) fun m6 =>
  k m6 (IntKind.i64.wrap (y4 + (1 : Int))))
  (kx0 y3)
def ref04_Deep (c_ref04_Closer : Int → Option Int) (c_ref04_Deep : (List Val) → Option Int) (n : Nat) (p0 : List Val)  : Option Int :=
  loop2 (ref04_Deep_L0 c_ref04_Closer c_ref04_Deep n p0 (0 : Int) (fun z1 =>
  some z1)) n (0 : Int) (0 : Int)
abbrev ref04_Deep_T (c_ref04_Closer : Int → Option Int) (c_ref04_Deep : (List Val) → Option Int) : List (Nat × TCall X) := [(54, ⟨true, [.ty 5], [5], c_ref04_Closer⟩), (33, ⟨true, [.ty 33], [3], c_ref04_Deep⟩)]
noncomputable abbrev ref04_Deep_x (c_ref04_Closer : Int → Option Int) (c_ref04_Deep : (List Val) → Option Int) : Cx := ⟨C, U, ref04_Deep_T c_ref04_Closer c_ref04_Deep, [], fun _ => []⟩
theorem ref04_Deep_ok : okF (C.ann 33) Try.f33 1 = true := by kernel_rfl
abbrev ref04_Deep_L0_D : LD := ⟨0, [.val 0 33, .val 2 2], [.val 3 2, .val 4 2], [(0, [.val 3 2])], []⟩
abbrev ref04_Deep_L0_g (c_ref04_Closer : Int → Option Int) (c_ref04_Deep : (List Val) → Option Int) (n : Nat) : LG U (PX X [3]) ref04_Deep_L0_D := fun c kx kr y k => ref04_Deep_L0 c_ref04_Closer c_ref04_Deep n c.1 c.2.1 (fun z0 => kx 0 (z0, ())) y.1 y.2.1 (fun z0 z1 => k (z0, z1, ()))
noncomputable abbrev ref04_Deep_sums (c_ref04_Closer : Int → Option Int) (c_ref04_Deep : (List Val) → Option Int) (n : Nat) : Sums (ref04_Deep_x c_ref04_Closer c_ref04_Deep) (PX X [3]) := [(0, runL U ref04_Deep_L0_D (ref04_Deep_L0_g c_ref04_Closer c_ref04_Deep n) n)]
theorem ref04_Deep_L0_e (c_ref04_Closer : Int → Option Int) (c_ref04_Deep : (List Val) → Option Int) (n : Nat) : ∀ c kx kr y k1, evL (ref04_Deep_x c_ref04_Closer c_ref04_Deep) (ann 33) (ref04_Deep_sums c_ref04_Closer c_ref04_Deep n) 0 (loopOf (bodyOf Try.f33) 0) (kontL U ref04_Deep_L0_D kx kr k1) (encS U ref04_Deep_L0_D.cap ref04_Deep_L0_D.din c y) = ref04_Deep_L0_g c_ref04_Closer c_ref04_Deep n c (fun i z => kx i c z) kr y (fun y2 => k1 c y2) := by
  intro c kx kr y k1
  kernel_rfl
theorem ref04_Deep_e (c_ref04_Closer : Int → Option Int) (c_ref04_Deep : (List Val) → Option Int) (n : Nat) : ∀ a, fnL (ref04_Deep_x c_ref04_Closer c_ref04_Deep) true 33 Try.f33 [.ty 33] [3] (ref04_Deep_sums c_ref04_Closer c_ref04_Deep n) a = ref04_Deep c_ref04_Closer c_ref04_Deep n a := by
  intro a
  kernel_rfl
theorem ref04_Deep_hT {K : CallT} (c_ref04_Closer : Int → Option Int) (c_ref04_Deep : (List Val) → Option Int) (h0 : Meets U (callV C K) 54 ⟨true, [.ty 5], [5], c_ref04_Closer⟩) (h1 : Meets U (callV C K) 33 ⟨true, [.ty 33], [3], c_ref04_Deep⟩)  : CallsOk (ref04_Deep_x c_ref04_Closer c_ref04_Deep) (callV C K) :=
  ⟨(mall_cons h0 (mall_cons h1 mall_nil)), rall_nil⟩
theorem ref04_Deep_L0_law {K : CallT} (c_ref04_Closer : Int → Option Int) (c_ref04_Deep : (List Val) → Option Int) (h0 : Meets U (callV C K) 54 ⟨true, [.ty 5], [5], c_ref04_Closer⟩) (h1 : Meets U (callV C K) 33 ⟨true, [.ty 33], [3], c_ref04_Deep⟩)  (n : Nat) (b0 : Base) (bn0 : b0.nr ≤ 0) : Law (ref04_Deep_x c_ref04_Closer c_ref04_Deep) b0 (callV C K) (ann 33) n (loopOf (bodyOf Try.f33) 0) (runL U ref04_Deep_L0_D (ref04_Deep_L0_g c_ref04_Closer c_ref04_Deep n) n) :=
  law_of (x := ref04_Deep_x c_ref04_Closer c_ref04_Deep) (id := 0) ok (ref04_Deep_hT c_ref04_Closer c_ref04_Deep h0 h1) (sums := ref04_Deep_sums c_ref04_Closer c_ref04_Deep n) (laws_none (show loopsOf 0 (loopOf (bodyOf Try.f33) 0) = [] by kernel_rfl)) ref04_Deep_L0_D bn0 (ref04_Deep_L0_g c_ref04_Closer c_ref04_Deep n) (ref04_Deep_L0_e c_ref04_Closer c_ref04_Deep n)
theorem ref04_Deep_meets {K : CallT} (hK : ∀ args h, K 33 args h = none) (c_ref04_Closer : Int → Option Int) (c_ref04_Deep : (List Val) → Option Int) (h0 : Meets U (callV C K) 54 ⟨true, [.ty 5], [5], c_ref04_Closer⟩) (h1 : Meets U (callV C K) 33 ⟨true, [.ty 33], [3], c_ref04_Deep⟩)  (t : PX X (AK.tys [.ty 33]) → Option (PX X [3])) (h : ∀ a r, t a = some r → ∃ n, ref04_Deep c_ref04_Closer c_ref04_Deep n a = some r) : Meets U (callV C K) 33 ⟨true, [.ty 33], [3], t⟩ := by
  refine fnL_meets (x := ref04_Deep_x c_ref04_Closer c_ref04_Deep) (ak := [.ty 33]) (rts := [3]) (dir := true) ok (ref04_Deep_hT c_ref04_Closer c_ref04_Deep h0 h1) hK Try.func33 ref04_Deep_ok fun a r hr => ?_
  obtain ⟨n, hn⟩ := h a r hr
  exact ⟨n, ref04_Deep_sums c_ref04_Closer c_ref04_Deep n, (laws_ids (ids := [0]) (by kernel_rfl) (by decide) (fun i hi => by
    simp only [List.mem_cons, List.not_mem_nil, or_false] at hi
    rcases hi with rfl
    · exact laws_one (c2 := loopOf (bodyOf Try.f33) 0) (by kernel_rfl) (by kernel_rfl) (ref04_Deep_L0_law c_ref04_Closer c_ref04_Deep h0 h1 _ _ (Nat.le_refl _))
    )), (ref04_Deep_e c_ref04_Closer c_ref04_Deep n a).trans hn⟩
-- 46 vitrine/vitrineref04.Tokens
def ref04_Tokens_L0 (c_ref04_Closer : Int → Option Int) (c_ref04_Tokens : (List Val) → Option (List Tok)) {R : Type} (n : Nat) (a0 : List Val) (a2 : List Tok) (kx0 : List Tok → Option R)  (y3 : List Tok) (y4 : Int) (k : List Tok → Int → Option R) : Option R :=
  cond (decide (y4 < (a0.length : Int)))
  (Option.bind (getI a0 y4) fun x2 =>
  Option.bind (Option.bind (room 56 (y3.length + [x2.tok].length)) (fun _ => some (y3 ++ [x2.tok]))) fun o3 =>
  Option.bind (getI a0 y4) fun x4 =>
  Option.bind (c_ref04_Closer x4.tok.k) fun r5 =>
  Option.bind (cond (r5 != (0 : Int)) (getI a0 y4) (some zVal)) fun x6 =>
  Option.bind (cond (r5 != (0 : Int)) (c_ref04_Tokens x6.l) (some [])) fun r7 =>
  Option.bind (cond (r5 != (0 : Int)) (Option.bind (room 56 (o3.length + r7.length)) (fun _ => some (o3 ++ r7))) (some o3)) fun o8 =>
  Option.bind (cond (r5 != (0 : Int)) (Option.bind (room 56 (o8.length + [(Tok.mk r5 [] (0 : Int) [] false)].length)) (fun _ => some (o8 ++ [(Tok.mk r5 [] (0 : Int) [] false)]))) (some o8)) fun o9 =>
  Option.bind (some (cond (r5 != (0 : Int)) o9 o3)) fun m10 =>
  k m10 (IntKind.i64.wrap (y4 + (1 : Int))))
  (kx0 y3)
def ref04_Tokens (c_ref04_Closer : Int → Option Int) (c_ref04_Tokens : (List Val) → Option (List Tok)) (n : Nat) (p0 : List Val)  : Option (List Tok) :=
  loop2 (ref04_Tokens_L0 c_ref04_Closer c_ref04_Tokens n p0 [] (fun z1 =>
  some z1)) n [] (0 : Int)
abbrev ref04_Tokens_T (c_ref04_Closer : Int → Option Int) (c_ref04_Tokens : (List Val) → Option (List Tok)) : List (Nat × TCall X) := [(54, ⟨true, [.ty 5], [5], c_ref04_Closer⟩), (46, ⟨true, [.ty 33], [78], c_ref04_Tokens⟩)]
noncomputable abbrev ref04_Tokens_x (c_ref04_Closer : Int → Option Int) (c_ref04_Tokens : (List Val) → Option (List Tok)) : Cx := ⟨C, U, ref04_Tokens_T c_ref04_Closer c_ref04_Tokens, [], fun _ => []⟩
theorem ref04_Tokens_ok : okF (C.ann 46) Try.f46 1 = true := by kernel_rfl
abbrev ref04_Tokens_L0_D : LD := ⟨0, [.val 0 33, .val 2 78], [.own 3 58, .val 4 2], [(0, [.own 3 58])], []⟩
abbrev ref04_Tokens_L0_g (c_ref04_Closer : Int → Option Int) (c_ref04_Tokens : (List Val) → Option (List Tok)) (n : Nat) : LG U (PX X [78]) ref04_Tokens_L0_D := fun c kx kr y k => ref04_Tokens_L0 c_ref04_Closer c_ref04_Tokens n c.1 c.2.1 (fun z0 => kx 0 (z0, ())) y.1 y.2.1 (fun z0 z1 => k (z0, z1, ()))
noncomputable abbrev ref04_Tokens_sums (c_ref04_Closer : Int → Option Int) (c_ref04_Tokens : (List Val) → Option (List Tok)) (n : Nat) : Sums (ref04_Tokens_x c_ref04_Closer c_ref04_Tokens) (PX X [78]) := [(0, runL U ref04_Tokens_L0_D (ref04_Tokens_L0_g c_ref04_Closer c_ref04_Tokens n) n)]
theorem ref04_Tokens_L0_e (c_ref04_Closer : Int → Option Int) (c_ref04_Tokens : (List Val) → Option (List Tok)) (n : Nat) : ∀ c kx kr y k1, evL (ref04_Tokens_x c_ref04_Closer c_ref04_Tokens) (ann 46) (ref04_Tokens_sums c_ref04_Closer c_ref04_Tokens n) 0 (loopOf (bodyOf Try.f46) 0) (kontL U ref04_Tokens_L0_D kx kr k1) (encS U ref04_Tokens_L0_D.cap ref04_Tokens_L0_D.din c y) = ref04_Tokens_L0_g c_ref04_Closer c_ref04_Tokens n c (fun i z => kx i c z) kr y (fun y2 => k1 c y2) := by
  intro c kx kr y k1
  kernel_rfl
theorem ref04_Tokens_e (c_ref04_Closer : Int → Option Int) (c_ref04_Tokens : (List Val) → Option (List Tok)) (n : Nat) : ∀ a, fnL (ref04_Tokens_x c_ref04_Closer c_ref04_Tokens) true 46 Try.f46 [.ty 33] [78] (ref04_Tokens_sums c_ref04_Closer c_ref04_Tokens n) a = ref04_Tokens c_ref04_Closer c_ref04_Tokens n a := by
  intro a
  kernel_rfl
theorem ref04_Tokens_hT {K : CallT} (c_ref04_Closer : Int → Option Int) (c_ref04_Tokens : (List Val) → Option (List Tok)) (h0 : Meets U (callV C K) 54 ⟨true, [.ty 5], [5], c_ref04_Closer⟩) (h1 : Meets U (callV C K) 46 ⟨true, [.ty 33], [78], c_ref04_Tokens⟩)  : CallsOk (ref04_Tokens_x c_ref04_Closer c_ref04_Tokens) (callV C K) :=
  ⟨(mall_cons h0 (mall_cons h1 mall_nil)), rall_nil⟩
theorem ref04_Tokens_L0_law {K : CallT} (c_ref04_Closer : Int → Option Int) (c_ref04_Tokens : (List Val) → Option (List Tok)) (h0 : Meets U (callV C K) 54 ⟨true, [.ty 5], [5], c_ref04_Closer⟩) (h1 : Meets U (callV C K) 46 ⟨true, [.ty 33], [78], c_ref04_Tokens⟩)  (n : Nat) (b0 : Base) (bn0 : b0.nr ≤ 0) : Law (ref04_Tokens_x c_ref04_Closer c_ref04_Tokens) b0 (callV C K) (ann 46) n (loopOf (bodyOf Try.f46) 0) (runL U ref04_Tokens_L0_D (ref04_Tokens_L0_g c_ref04_Closer c_ref04_Tokens n) n) :=
  law_of (x := ref04_Tokens_x c_ref04_Closer c_ref04_Tokens) (id := 0) ok (ref04_Tokens_hT c_ref04_Closer c_ref04_Tokens h0 h1) (sums := ref04_Tokens_sums c_ref04_Closer c_ref04_Tokens n) (laws_none (show loopsOf 0 (loopOf (bodyOf Try.f46) 0) = [] by kernel_rfl)) ref04_Tokens_L0_D bn0 (ref04_Tokens_L0_g c_ref04_Closer c_ref04_Tokens n) (ref04_Tokens_L0_e c_ref04_Closer c_ref04_Tokens n)
theorem ref04_Tokens_meets {K : CallT} (hK : ∀ args h, K 46 args h = none) (c_ref04_Closer : Int → Option Int) (c_ref04_Tokens : (List Val) → Option (List Tok)) (h0 : Meets U (callV C K) 54 ⟨true, [.ty 5], [5], c_ref04_Closer⟩) (h1 : Meets U (callV C K) 46 ⟨true, [.ty 33], [78], c_ref04_Tokens⟩)  (t : PX X (AK.tys [.ty 33]) → Option (PX X [78])) (h : ∀ a r, t a = some r → ∃ n, ref04_Tokens c_ref04_Closer c_ref04_Tokens n a = some r) : Meets U (callV C K) 46 ⟨true, [.ty 33], [78], t⟩ := by
  refine fnL_meets (x := ref04_Tokens_x c_ref04_Closer c_ref04_Tokens) (ak := [.ty 33]) (rts := [78]) (dir := true) ok (ref04_Tokens_hT c_ref04_Closer c_ref04_Tokens h0 h1) hK Try.func46 ref04_Tokens_ok fun a r hr => ?_
  obtain ⟨n, hn⟩ := h a r hr
  exact ⟨n, ref04_Tokens_sums c_ref04_Closer c_ref04_Tokens n, (laws_ids (ids := [0]) (by kernel_rfl) (by decide) (fun i hi => by
    simp only [List.mem_cons, List.not_mem_nil, or_false] at hi
    rcases hi with rfl
    · exact laws_one (c2 := loopOf (bodyOf Try.f46) 0) (by kernel_rfl) (by kernel_rfl) (ref04_Tokens_L0_law c_ref04_Closer c_ref04_Tokens h0 h1 _ _ (Nat.le_refl _))
    )), (ref04_Tokens_e c_ref04_Closer c_ref04_Tokens n a).trans hn⟩
-- 47 vitrine/vitrineref04.shaped
def ref04_shaped_L0 (c_ref04_Closer : Int → Option Int) (c_ref04_shaped : (List Val) × Int → Option Bool) {R : Type} (n : Nat) (a0 : List Val) (a1 : Int) (kx0 : Bool → Option R) (kr : Bool → Option R) (y4 : Bool) (y5 : Int) (k : Bool → Int → Option R) : Option R :=
  cond (decide (y5 < (a0.length : Int)))
  (Option.bind (getI a0 y5) fun x3 =>
  Option.bind (c_ref04_Closer x3.tok.k) fun r4 =>
  Option.bind (cond (r4 == (0 : Int)) (getI a0 y5) (some zVal)) fun x5 =>
  Option.bind (some (cond (r4 == (0 : Int)) (decide ((x5.l.length : Int) > (0 : Int))) false)) fun m6 =>
  Option.bind (cond ((!m6) && (a1 != (0 : Int))) (getI a0 y5) (some zVal)) fun x7 =>
  Option.bind (cond (!m6) (some (cond (a1 != (0 : Int)) (x7.tok.k == a1) false)) (some (x7.tok.k == a1))) fun m8 =>
  Option.bind (some (cond m6 true m8)) fun m9 =>
  Option.bind (cond ((!m9) && (r4 != (0 : Int))) (getI a0 y5) (some zVal)) fun x10 =>
  Option.bind (cond ((!m9) && (r4 != (0 : Int))) (c_ref04_shaped (x10.l, r4)) (some false)) fun r11 =>
  Option.bind (cond (!m9) (some (cond (r4 != (0 : Int)) (!r11) false)) (some (!r11))) fun m12 =>
  Option.bind (some (cond m9 true m12)) fun m13 =>
  cond m13
  (kr false)
  (k y4 (IntKind.i64.wrap (y5 + (1 : Int)))))
  (kx0 y4)
def ref04_shaped (c_ref04_Closer : Int → Option Int) (c_ref04_shaped : (List Val) × Int → Option Bool) (n : Nat) (p0 : List Val) (p1 : Int)  : Option Bool :=
  loop2 (ref04_shaped_L0 c_ref04_Closer c_ref04_shaped n p0 p1 (fun z1 =>
  some true) (fun z2 =>
  some z2)) n false (0 : Int)
abbrev ref04_shaped_T (c_ref04_Closer : Int → Option Int) (c_ref04_shaped : (List Val) × Int → Option Bool) : List (Nat × TCall X) := [(54, ⟨true, [.ty 5], [5], c_ref04_Closer⟩), (47, ⟨true, [.ty 33, .ty 5], [4], c_ref04_shaped⟩)]
noncomputable abbrev ref04_shaped_x (c_ref04_Closer : Int → Option Int) (c_ref04_shaped : (List Val) × Int → Option Bool) : Cx := ⟨C, U, ref04_shaped_T c_ref04_Closer c_ref04_shaped, [], fun _ => []⟩
theorem ref04_shaped_ok : okF (C.ann 47) Try.f47 2 = true := by kernel_rfl
abbrev ref04_shaped_L0_D : LD := ⟨0, [.val 0 33, .val 1 5], [.val 4 4, .val 5 2], [(0, [.val 4 4])], [.val 4 4]⟩
abbrev ref04_shaped_L0_g (c_ref04_Closer : Int → Option Int) (c_ref04_shaped : (List Val) × Int → Option Bool) (n : Nat) : LG U (PX X [4]) ref04_shaped_L0_D := fun c kx kr y k => ref04_shaped_L0 c_ref04_Closer c_ref04_shaped n c.1 c.2.1 (fun z0 => kx 0 (z0, ())) (fun z0 => kr (z0, ())) y.1 y.2.1 (fun z0 z1 => k (z0, z1, ()))
noncomputable abbrev ref04_shaped_sums (c_ref04_Closer : Int → Option Int) (c_ref04_shaped : (List Val) × Int → Option Bool) (n : Nat) : Sums (ref04_shaped_x c_ref04_Closer c_ref04_shaped) (PX X [4]) := [(0, runL U ref04_shaped_L0_D (ref04_shaped_L0_g c_ref04_Closer c_ref04_shaped n) n)]
theorem ref04_shaped_L0_e (c_ref04_Closer : Int → Option Int) (c_ref04_shaped : (List Val) × Int → Option Bool) (n : Nat) : ∀ c kx kr y k1, evL (ref04_shaped_x c_ref04_Closer c_ref04_shaped) (ann 47) (ref04_shaped_sums c_ref04_Closer c_ref04_shaped n) 0 (loopOf (bodyOf Try.f47) 0) (kontL U ref04_shaped_L0_D kx kr k1) (encS U ref04_shaped_L0_D.cap ref04_shaped_L0_D.din c y) = ref04_shaped_L0_g c_ref04_Closer c_ref04_shaped n c (fun i z => kx i c z) kr y (fun y2 => k1 c y2) := by
  intro c kx kr y k1
  kernel_rfl
theorem ref04_shaped_e (c_ref04_Closer : Int → Option Int) (c_ref04_shaped : (List Val) × Int → Option Bool) (n : Nat) : ∀ a, fnL (ref04_shaped_x c_ref04_Closer c_ref04_shaped) true 47 Try.f47 [.ty 33, .ty 5] [4] (ref04_shaped_sums c_ref04_Closer c_ref04_shaped n) a = ref04_shaped c_ref04_Closer c_ref04_shaped n a.1 a.2 := by
  intro a
  kernel_rfl
theorem ref04_shaped_hT {K : CallT} (c_ref04_Closer : Int → Option Int) (c_ref04_shaped : (List Val) × Int → Option Bool) (h0 : Meets U (callV C K) 54 ⟨true, [.ty 5], [5], c_ref04_Closer⟩) (h1 : Meets U (callV C K) 47 ⟨true, [.ty 33, .ty 5], [4], c_ref04_shaped⟩)  : CallsOk (ref04_shaped_x c_ref04_Closer c_ref04_shaped) (callV C K) :=
  ⟨(mall_cons h0 (mall_cons h1 mall_nil)), rall_nil⟩
theorem ref04_shaped_L0_law {K : CallT} (c_ref04_Closer : Int → Option Int) (c_ref04_shaped : (List Val) × Int → Option Bool) (h0 : Meets U (callV C K) 54 ⟨true, [.ty 5], [5], c_ref04_Closer⟩) (h1 : Meets U (callV C K) 47 ⟨true, [.ty 33, .ty 5], [4], c_ref04_shaped⟩)  (n : Nat) (b0 : Base) (bn0 : b0.nr ≤ 0) : Law (ref04_shaped_x c_ref04_Closer c_ref04_shaped) b0 (callV C K) (ann 47) n (loopOf (bodyOf Try.f47) 0) (runL U ref04_shaped_L0_D (ref04_shaped_L0_g c_ref04_Closer c_ref04_shaped n) n) :=
  law_of (x := ref04_shaped_x c_ref04_Closer c_ref04_shaped) (id := 0) ok (ref04_shaped_hT c_ref04_Closer c_ref04_shaped h0 h1) (sums := ref04_shaped_sums c_ref04_Closer c_ref04_shaped n) (laws_none (show loopsOf 0 (loopOf (bodyOf Try.f47) 0) = [] by kernel_rfl)) ref04_shaped_L0_D bn0 (ref04_shaped_L0_g c_ref04_Closer c_ref04_shaped n) (ref04_shaped_L0_e c_ref04_Closer c_ref04_shaped n)
theorem ref04_shaped_meets {K : CallT} (hK : ∀ args h, K 47 args h = none) (c_ref04_Closer : Int → Option Int) (c_ref04_shaped : (List Val) × Int → Option Bool) (h0 : Meets U (callV C K) 54 ⟨true, [.ty 5], [5], c_ref04_Closer⟩) (h1 : Meets U (callV C K) 47 ⟨true, [.ty 33, .ty 5], [4], c_ref04_shaped⟩)  (t : PX X (AK.tys [.ty 33, .ty 5]) → Option (PX X [4])) (h : ∀ a r, t a = some r → ∃ n, ref04_shaped c_ref04_Closer c_ref04_shaped n a.1 a.2 = some r) : Meets U (callV C K) 47 ⟨true, [.ty 33, .ty 5], [4], t⟩ := by
  refine fnL_meets (x := ref04_shaped_x c_ref04_Closer c_ref04_shaped) (ak := [.ty 33, .ty 5]) (rts := [4]) (dir := true) ok (ref04_shaped_hT c_ref04_Closer c_ref04_shaped h0 h1) hK Try.func47 ref04_shaped_ok fun a r hr => ?_
  obtain ⟨n, hn⟩ := h a r hr
  exact ⟨n, ref04_shaped_sums c_ref04_Closer c_ref04_shaped n, (laws_ids (ids := [0]) (by kernel_rfl) (by decide) (fun i hi => by
    simp only [List.mem_cons, List.not_mem_nil, or_false] at hi
    rcases hi with rfl
    · exact laws_one (c2 := loopOf (bodyOf Try.f47) 0) (by kernel_rfl) (by kernel_rfl) (ref04_shaped_L0_law c_ref04_Closer c_ref04_shaped h0 h1 _ _ (Nat.le_refl _))
    )), (ref04_shaped_e c_ref04_Closer c_ref04_shaped n a).trans hn⟩
-- 27 vitrine/vitrineref04.Check
def ref04_Check (c_ref04_Deep : (List Val) → Option Int) (c_ref04_Tokens : (List Val) → Option (List Tok)) (c_ref04_shaped : (List Val) × Int → Option Bool) (n : Nat) (p0 : List Val)  : Option Int :=
  Option.bind (c_ref04_Deep p0) fun r1 =>
  cond (decide (r1 > (16 : Int)))
  (some (20 : Int))
  (Option.bind (c_ref04_Tokens p0) fun r2 =>
  cond (decide ((r2.length : Int) > (1500 : Int)))
  (some (4 : Int))
  (Option.bind (c_ref04_shaped (p0, (0 : Int))) fun r3 =>
  cond (!r3)
  (some (8 : Int))
  (some (0 : Int))))
abbrev ref04_Check_T (c_ref04_Deep : (List Val) → Option Int) (c_ref04_Tokens : (List Val) → Option (List Tok)) (c_ref04_shaped : (List Val) × Int → Option Bool) : List (Nat × TCall X) := [(33, ⟨true, [.ty 33], [3], c_ref04_Deep⟩), (46, ⟨true, [.ty 33], [78], c_ref04_Tokens⟩), (47, ⟨true, [.ty 33, .ty 5], [4], c_ref04_shaped⟩)]
noncomputable abbrev ref04_Check_x (c_ref04_Deep : (List Val) → Option Int) (c_ref04_Tokens : (List Val) → Option (List Tok)) (c_ref04_shaped : (List Val) × Int → Option Bool) : Cx := ⟨C, U, ref04_Check_T c_ref04_Deep c_ref04_Tokens c_ref04_shaped, [], fun _ => []⟩
theorem ref04_Check_ok : okF (C.ann 27) Try.f27 1 = true := by kernel_rfl
noncomputable abbrev ref04_Check_sums (c_ref04_Deep : (List Val) → Option Int) (c_ref04_Tokens : (List Val) → Option (List Tok)) (c_ref04_shaped : (List Val) × Int → Option Bool) (n : Nat) : Sums (ref04_Check_x c_ref04_Deep c_ref04_Tokens c_ref04_shaped) (PX X [3]) := []
theorem ref04_Check_e (c_ref04_Deep : (List Val) → Option Int) (c_ref04_Tokens : (List Val) → Option (List Tok)) (c_ref04_shaped : (List Val) × Int → Option Bool) (n : Nat) : ∀ a, fnL (ref04_Check_x c_ref04_Deep c_ref04_Tokens c_ref04_shaped) true 27 Try.f27 [.ty 33] [3] (ref04_Check_sums c_ref04_Deep c_ref04_Tokens c_ref04_shaped n) a = ref04_Check c_ref04_Deep c_ref04_Tokens c_ref04_shaped n a := by
  intro a
  kernel_rfl
theorem ref04_Check_hT {K : CallT} (c_ref04_Deep : (List Val) → Option Int) (c_ref04_Tokens : (List Val) → Option (List Tok)) (c_ref04_shaped : (List Val) × Int → Option Bool) (h0 : Meets U (callV C K) 33 ⟨true, [.ty 33], [3], c_ref04_Deep⟩) (h1 : Meets U (callV C K) 46 ⟨true, [.ty 33], [78], c_ref04_Tokens⟩) (h2 : Meets U (callV C K) 47 ⟨true, [.ty 33, .ty 5], [4], c_ref04_shaped⟩)  : CallsOk (ref04_Check_x c_ref04_Deep c_ref04_Tokens c_ref04_shaped) (callV C K) :=
  ⟨(mall_cons h0 (mall_cons h1 (mall_cons h2 mall_nil))), rall_nil⟩
theorem ref04_Check_meets {K : CallT} (hK : ∀ args h, K 27 args h = none) (c_ref04_Deep : (List Val) → Option Int) (c_ref04_Tokens : (List Val) → Option (List Tok)) (c_ref04_shaped : (List Val) × Int → Option Bool) (h0 : Meets U (callV C K) 33 ⟨true, [.ty 33], [3], c_ref04_Deep⟩) (h1 : Meets U (callV C K) 46 ⟨true, [.ty 33], [78], c_ref04_Tokens⟩) (h2 : Meets U (callV C K) 47 ⟨true, [.ty 33, .ty 5], [4], c_ref04_shaped⟩)  (t : PX X (AK.tys [.ty 33]) → Option (PX X [3])) (h : ∀ a r, t a = some r → ∃ n, ref04_Check c_ref04_Deep c_ref04_Tokens c_ref04_shaped n a = some r) : Meets U (callV C K) 27 ⟨true, [.ty 33], [3], t⟩ := by
  refine fnL_meets (x := ref04_Check_x c_ref04_Deep c_ref04_Tokens c_ref04_shaped) (ak := [.ty 33]) (rts := [3]) (dir := true) ok (ref04_Check_hT c_ref04_Deep c_ref04_Tokens c_ref04_shaped h0 h1 h2) hK Try.func27 ref04_Check_ok fun a r hr => ?_
  obtain ⟨n, hn⟩ := h a r hr
  exact ⟨n, ref04_Check_sums c_ref04_Deep c_ref04_Tokens c_ref04_shaped n, (laws_none (show loopsOf 0 (bodyOf Try.f27) = [] by kernel_rfl)), (ref04_Check_e c_ref04_Deep c_ref04_Tokens c_ref04_shaped n a).trans hn⟩
-- 12 vitrine/vitrineref04.Great
def ref04_Great (c_ref04_Size : (List Val) × Int → Option Int) (c_ref04_Deep : (List Val) → Option Int) (n : Nat) (p0 : List Val)  : Option Bool :=
  Option.bind (c_ref04_Size (p0, (300 : Int))) fun r1 =>
  Option.bind (cond (!(decide (r1 > (300 : Int)))) (c_ref04_Deep p0) (some (0 : Int))) fun r2 =>
  Option.bind (some (cond (decide (r1 > (300 : Int))) true (decide (r2 > (40 : Int))))) fun m3 =>
  some m3
abbrev ref04_Great_T (c_ref04_Size : (List Val) × Int → Option Int) (c_ref04_Deep : (List Val) → Option Int) : List (Nat × TCall X) := [(22, ⟨true, [.ty 33, .ty 3], [3], c_ref04_Size⟩), (33, ⟨true, [.ty 33], [3], c_ref04_Deep⟩)]
noncomputable abbrev ref04_Great_x (c_ref04_Size : (List Val) × Int → Option Int) (c_ref04_Deep : (List Val) → Option Int) : Cx := ⟨C, U, ref04_Great_T c_ref04_Size c_ref04_Deep, [], fun _ => []⟩
theorem ref04_Great_ok : okF (C.ann 12) Try.f12 1 = true := by kernel_rfl
noncomputable abbrev ref04_Great_sums (c_ref04_Size : (List Val) × Int → Option Int) (c_ref04_Deep : (List Val) → Option Int) (n : Nat) : Sums (ref04_Great_x c_ref04_Size c_ref04_Deep) (PX X [4]) := []
theorem ref04_Great_e (c_ref04_Size : (List Val) × Int → Option Int) (c_ref04_Deep : (List Val) → Option Int) (n : Nat) : ∀ a, fnL (ref04_Great_x c_ref04_Size c_ref04_Deep) true 12 Try.f12 [.ty 33] [4] (ref04_Great_sums c_ref04_Size c_ref04_Deep n) a = ref04_Great c_ref04_Size c_ref04_Deep n a := by
  intro a
  kernel_rfl
theorem ref04_Great_hT {K : CallT} (c_ref04_Size : (List Val) × Int → Option Int) (c_ref04_Deep : (List Val) → Option Int) (h0 : Meets U (callV C K) 22 ⟨true, [.ty 33, .ty 3], [3], c_ref04_Size⟩) (h1 : Meets U (callV C K) 33 ⟨true, [.ty 33], [3], c_ref04_Deep⟩)  : CallsOk (ref04_Great_x c_ref04_Size c_ref04_Deep) (callV C K) :=
  ⟨(mall_cons h0 (mall_cons h1 mall_nil)), rall_nil⟩
theorem ref04_Great_meets {K : CallT} (hK : ∀ args h, K 12 args h = none) (c_ref04_Size : (List Val) × Int → Option Int) (c_ref04_Deep : (List Val) → Option Int) (h0 : Meets U (callV C K) 22 ⟨true, [.ty 33, .ty 3], [3], c_ref04_Size⟩) (h1 : Meets U (callV C K) 33 ⟨true, [.ty 33], [3], c_ref04_Deep⟩)  (t : PX X (AK.tys [.ty 33]) → Option (PX X [4])) (h : ∀ a r, t a = some r → ∃ n, ref04_Great c_ref04_Size c_ref04_Deep n a = some r) : Meets U (callV C K) 12 ⟨true, [.ty 33], [4], t⟩ := by
  refine fnL_meets (x := ref04_Great_x c_ref04_Size c_ref04_Deep) (ak := [.ty 33]) (rts := [4]) (dir := true) ok (ref04_Great_hT c_ref04_Size c_ref04_Deep h0 h1) hK Try.func12 ref04_Great_ok fun a r hr => ?_
  obtain ⟨n, hn⟩ := h a r hr
  exact ⟨n, ref04_Great_sums c_ref04_Size c_ref04_Deep n, (laws_none (show loopsOf 0 (bodyOf Try.f12) = [] by kernel_rfl)), (ref04_Great_e c_ref04_Size c_ref04_Deep n a).trans hn⟩
-- 22 vitrine/vitrineref04.Size
def ref04_Size_L0 (c_ref04_Size : (List Val) × Int → Option Int) {R : Type} (n : Nat) (a0 : List Val) (a1 : Int) (a4 : Int) (kx0 : Int → Option R)  (y5 : Int) (y6 : Int) (k : Int → Int → Option R) : Option R :=
  Option.bind (some (cond (decide (y6 < (a0.length : Int))) (decide (y5 ≤ a1)) false)) fun m2 =>
  cond m2
  (Option.bind (getI a0 y6) fun x3 =>
  Option.bind (getI a0 y6) fun x4 =>
  Option.bind (getI a0 y6) fun x5 =>
  Option.bind (c_ref04_Size (x5.l, IntKind.i64.wrap (a1 - y5))) fun r6 =>
  k (IntKind.i64.wrap (y5 + (IntKind.i64.wrap ((IntKind.i64.wrap ((IntKind.i64.wrap ((1 : Int) + (x3.tok.t.length : Int))) + (x4.tok.u.length : Int))) + r6)))) (IntKind.i64.wrap (y6 + (1 : Int))))
  (kx0 y5)
def ref04_Size (c_ref04_Size : (List Val) × Int → Option Int) (n : Nat) (p0 : List Val) (p1 : Int)  : Option Int :=
  loop2 (ref04_Size_L0 c_ref04_Size n p0 p1 (0 : Int) (fun z1 =>
  some z1)) n (0 : Int) (0 : Int)
abbrev ref04_Size_T (c_ref04_Size : (List Val) × Int → Option Int) : List (Nat × TCall X) := [(22, ⟨true, [.ty 33, .ty 3], [3], c_ref04_Size⟩)]
noncomputable abbrev ref04_Size_x (c_ref04_Size : (List Val) × Int → Option Int) : Cx := ⟨C, U, ref04_Size_T c_ref04_Size, [], fun _ => []⟩
theorem ref04_Size_ok : okF (C.ann 22) Try.f22 2 = true := by kernel_rfl
abbrev ref04_Size_L0_D : LD := ⟨0, [.val 0 33, .val 1 2, .val 4 2], [.val 5 2, .val 6 2], [(0, [.val 5 2])], []⟩
abbrev ref04_Size_L0_g (c_ref04_Size : (List Val) × Int → Option Int) (n : Nat) : LG U (PX X [3]) ref04_Size_L0_D := fun c kx kr y k => ref04_Size_L0 c_ref04_Size n c.1 c.2.1 c.2.2.1 (fun z0 => kx 0 (z0, ())) y.1 y.2.1 (fun z0 z1 => k (z0, z1, ()))
noncomputable abbrev ref04_Size_sums (c_ref04_Size : (List Val) × Int → Option Int) (n : Nat) : Sums (ref04_Size_x c_ref04_Size) (PX X [3]) := [(0, runL U ref04_Size_L0_D (ref04_Size_L0_g c_ref04_Size n) n)]
theorem ref04_Size_L0_e (c_ref04_Size : (List Val) × Int → Option Int) (n : Nat) : ∀ c kx kr y k1, evL (ref04_Size_x c_ref04_Size) (ann 22) (ref04_Size_sums c_ref04_Size n) 0 (loopOf (bodyOf Try.f22) 0) (kontL U ref04_Size_L0_D kx kr k1) (encS U ref04_Size_L0_D.cap ref04_Size_L0_D.din c y) = ref04_Size_L0_g c_ref04_Size n c (fun i z => kx i c z) kr y (fun y2 => k1 c y2) := by
  intro c kx kr y k1
  kernel_rfl
theorem ref04_Size_e (c_ref04_Size : (List Val) × Int → Option Int) (n : Nat) : ∀ a, fnL (ref04_Size_x c_ref04_Size) true 22 Try.f22 [.ty 33, .ty 3] [3] (ref04_Size_sums c_ref04_Size n) a = ref04_Size c_ref04_Size n a.1 a.2 := by
  intro a
  kernel_rfl
theorem ref04_Size_hT {K : CallT} (c_ref04_Size : (List Val) × Int → Option Int) (h0 : Meets U (callV C K) 22 ⟨true, [.ty 33, .ty 3], [3], c_ref04_Size⟩)  : CallsOk (ref04_Size_x c_ref04_Size) (callV C K) :=
  ⟨(mall_cons h0 mall_nil), rall_nil⟩
theorem ref04_Size_L0_law {K : CallT} (c_ref04_Size : (List Val) × Int → Option Int) (h0 : Meets U (callV C K) 22 ⟨true, [.ty 33, .ty 3], [3], c_ref04_Size⟩)  (n : Nat) (b0 : Base) (bn0 : b0.nr ≤ 0) : Law (ref04_Size_x c_ref04_Size) b0 (callV C K) (ann 22) n (loopOf (bodyOf Try.f22) 0) (runL U ref04_Size_L0_D (ref04_Size_L0_g c_ref04_Size n) n) :=
  law_of (x := ref04_Size_x c_ref04_Size) (id := 0) ok (ref04_Size_hT c_ref04_Size h0) (sums := ref04_Size_sums c_ref04_Size n) (laws_none (show loopsOf 0 (loopOf (bodyOf Try.f22) 0) = [] by kernel_rfl)) ref04_Size_L0_D bn0 (ref04_Size_L0_g c_ref04_Size n) (ref04_Size_L0_e c_ref04_Size n)
theorem ref04_Size_meets {K : CallT} (hK : ∀ args h, K 22 args h = none) (c_ref04_Size : (List Val) × Int → Option Int) (h0 : Meets U (callV C K) 22 ⟨true, [.ty 33, .ty 3], [3], c_ref04_Size⟩)  (t : PX X (AK.tys [.ty 33, .ty 3]) → Option (PX X [3])) (h : ∀ a r, t a = some r → ∃ n, ref04_Size c_ref04_Size n a.1 a.2 = some r) : Meets U (callV C K) 22 ⟨true, [.ty 33, .ty 3], [3], t⟩ := by
  refine fnL_meets (x := ref04_Size_x c_ref04_Size) (ak := [.ty 33, .ty 3]) (rts := [3]) (dir := true) ok (ref04_Size_hT c_ref04_Size h0) hK Try.func22 ref04_Size_ok fun a r hr => ?_
  obtain ⟨n, hn⟩ := h a r hr
  exact ⟨n, ref04_Size_sums c_ref04_Size n, (laws_ids (ids := [0]) (by kernel_rfl) (by decide) (fun i hi => by
    simp only [List.mem_cons, List.not_mem_nil, or_false] at hi
    rcases hi with rfl
    · exact laws_one (c2 := loopOf (bodyOf Try.f22) 0) (by kernel_rfl) (by kernel_rfl) (ref04_Size_L0_law c_ref04_Size h0 _ _ (Nat.le_refl _))
    )), (ref04_Size_e c_ref04_Size n a).trans hn⟩
-- 21 vitrine/vitrineref04.Same
def ref04_Same_L0 (c_ref04_Same : (List Val) × (List Val) → Option Bool) {R : Type} (n : Nat) (a0 : List Val) (a1 : List Val) (kx0 : Bool → Option R) (kr : Bool → Option R) (y4 : Bool) (y5 : Int) (k : Bool → Int → Option R) : Option R :=
  cond (decide (y5 < (a0.length : Int)))
  (Option.bind (getI a0 y5) fun x3 =>
  Option.bind (getI a1 y5) fun x4 =>
  Option.bind (cond (!(!(Tok.eqb x3.tok x4.tok))) (getI a0 y5) (some zVal)) fun x5 =>
  Option.bind (cond (!(!(Tok.eqb x3.tok x4.tok))) (getI a1 y5) (some zVal)) fun x6 =>
  Option.bind (cond (!(!(Tok.eqb x3.tok x4.tok))) (c_ref04_Same (x5.l, x6.l)) (some false)) fun r7 =>
  Option.bind (some (cond (!(Tok.eqb x3.tok x4.tok)) true (!r7))) fun m8 =>
  cond m8
  (kr false)
  (k y4 (IntKind.i64.wrap (y5 + (1 : Int)))))
  (kx0 y4)
def ref04_Same (c_ref04_Same : (List Val) × (List Val) → Option Bool) (n : Nat) (p0 : List Val) (p1 : List Val)  : Option Bool :=
  cond ((p0.length : Int) != (p1.length : Int))
  (some false)
  (loop2 (ref04_Same_L0 c_ref04_Same n p0 p1 (fun z1 =>
  some true) (fun z2 =>
  some z2)) n false (0 : Int))
abbrev ref04_Same_T (c_ref04_Same : (List Val) × (List Val) → Option Bool) : List (Nat × TCall X) := [(21, ⟨true, [.ty 33, .ty 33], [4], c_ref04_Same⟩)]
noncomputable abbrev ref04_Same_x (c_ref04_Same : (List Val) × (List Val) → Option Bool) : Cx := ⟨C, U, ref04_Same_T c_ref04_Same, [], fun _ => []⟩
theorem ref04_Same_ok : okF (C.ann 21) Try.f21 2 = true := by kernel_rfl
abbrev ref04_Same_L0_D : LD := ⟨0, [.val 0 33, .val 1 33], [.val 4 4, .val 5 2], [(0, [.val 4 4])], [.val 4 4]⟩
abbrev ref04_Same_L0_g (c_ref04_Same : (List Val) × (List Val) → Option Bool) (n : Nat) : LG U (PX X [4]) ref04_Same_L0_D := fun c kx kr y k => ref04_Same_L0 c_ref04_Same n c.1 c.2.1 (fun z0 => kx 0 (z0, ())) (fun z0 => kr (z0, ())) y.1 y.2.1 (fun z0 z1 => k (z0, z1, ()))
noncomputable abbrev ref04_Same_sums (c_ref04_Same : (List Val) × (List Val) → Option Bool) (n : Nat) : Sums (ref04_Same_x c_ref04_Same) (PX X [4]) := [(0, runL U ref04_Same_L0_D (ref04_Same_L0_g c_ref04_Same n) n)]
theorem ref04_Same_L0_e (c_ref04_Same : (List Val) × (List Val) → Option Bool) (n : Nat) : ∀ c kx kr y k1, evL (ref04_Same_x c_ref04_Same) (ann 21) (ref04_Same_sums c_ref04_Same n) 0 (loopOf (bodyOf Try.f21) 0) (kontL U ref04_Same_L0_D kx kr k1) (encS U ref04_Same_L0_D.cap ref04_Same_L0_D.din c y) = ref04_Same_L0_g c_ref04_Same n c (fun i z => kx i c z) kr y (fun y2 => k1 c y2) := by
  intro c kx kr y k1
  kernel_rfl
theorem ref04_Same_e (c_ref04_Same : (List Val) × (List Val) → Option Bool) (n : Nat) : ∀ a, fnL (ref04_Same_x c_ref04_Same) true 21 Try.f21 [.ty 33, .ty 33] [4] (ref04_Same_sums c_ref04_Same n) a = ref04_Same c_ref04_Same n a.1 a.2 := by
  intro a
  kernel_rfl
theorem ref04_Same_hT {K : CallT} (c_ref04_Same : (List Val) × (List Val) → Option Bool) (h0 : Meets U (callV C K) 21 ⟨true, [.ty 33, .ty 33], [4], c_ref04_Same⟩)  : CallsOk (ref04_Same_x c_ref04_Same) (callV C K) :=
  ⟨(mall_cons h0 mall_nil), rall_nil⟩
theorem ref04_Same_L0_law {K : CallT} (c_ref04_Same : (List Val) × (List Val) → Option Bool) (h0 : Meets U (callV C K) 21 ⟨true, [.ty 33, .ty 33], [4], c_ref04_Same⟩)  (n : Nat) (b0 : Base) (bn0 : b0.nr ≤ 0) : Law (ref04_Same_x c_ref04_Same) b0 (callV C K) (ann 21) n (loopOf (bodyOf Try.f21) 0) (runL U ref04_Same_L0_D (ref04_Same_L0_g c_ref04_Same n) n) :=
  law_of (x := ref04_Same_x c_ref04_Same) (id := 0) ok (ref04_Same_hT c_ref04_Same h0) (sums := ref04_Same_sums c_ref04_Same n) (laws_none (show loopsOf 0 (loopOf (bodyOf Try.f21) 0) = [] by kernel_rfl)) ref04_Same_L0_D bn0 (ref04_Same_L0_g c_ref04_Same n) (ref04_Same_L0_e c_ref04_Same n)
theorem ref04_Same_meets {K : CallT} (hK : ∀ args h, K 21 args h = none) (c_ref04_Same : (List Val) × (List Val) → Option Bool) (h0 : Meets U (callV C K) 21 ⟨true, [.ty 33, .ty 33], [4], c_ref04_Same⟩)  (t : PX X (AK.tys [.ty 33, .ty 33]) → Option (PX X [4])) (h : ∀ a r, t a = some r → ∃ n, ref04_Same c_ref04_Same n a.1 a.2 = some r) : Meets U (callV C K) 21 ⟨true, [.ty 33, .ty 33], [4], t⟩ := by
  refine fnL_meets (x := ref04_Same_x c_ref04_Same) (ak := [.ty 33, .ty 33]) (rts := [4]) (dir := true) ok (ref04_Same_hT c_ref04_Same h0) hK Try.func21 ref04_Same_ok fun a r hr => ?_
  obtain ⟨n, hn⟩ := h a r hr
  exact ⟨n, ref04_Same_sums c_ref04_Same n, (laws_ids (ids := [0]) (by kernel_rfl) (by decide) (fun i hi => by
    simp only [List.mem_cons, List.not_mem_nil, or_false] at hi
    rcases hi with rfl
    · exact laws_one (c2 := loopOf (bodyOf Try.f21) 0) (by kernel_rfl) (by kernel_rfl) (ref04_Same_L0_law c_ref04_Same h0 _ _ (Nat.le_refl _))
    )), (ref04_Same_e c_ref04_Same n a).trans hn⟩
-- 66 strings.HasPrefix
def strings_HasPrefix (c_internal_stringslite_HasPrefix : (List UInt8) × (List UInt8) → Option Bool) (n : Nat) (p0 : List UInt8) (p1 : List UInt8)  : Option Bool :=
  Option.bind (c_internal_stringslite_HasPrefix (p0, p1)) fun r1 =>
  some r1
abbrev strings_HasPrefix_T (c_internal_stringslite_HasPrefix : (List UInt8) × (List UInt8) → Option Bool) : List (Nat × TCall X) := [(77, ⟨true, [.ty 9, .ty 9], [4], c_internal_stringslite_HasPrefix⟩)]
noncomputable abbrev strings_HasPrefix_x (c_internal_stringslite_HasPrefix : (List UInt8) × (List UInt8) → Option Bool) : Cx := ⟨C, U, strings_HasPrefix_T c_internal_stringslite_HasPrefix, [], fun _ => []⟩
theorem strings_HasPrefix_ok : okF (C.ann 66) Try.f66 2 = true := by kernel_rfl
noncomputable abbrev strings_HasPrefix_sums (c_internal_stringslite_HasPrefix : (List UInt8) × (List UInt8) → Option Bool) (n : Nat) : Sums (strings_HasPrefix_x c_internal_stringslite_HasPrefix) (PX X [4]) := []
theorem strings_HasPrefix_e (c_internal_stringslite_HasPrefix : (List UInt8) × (List UInt8) → Option Bool) (n : Nat) : ∀ a, fnL (strings_HasPrefix_x c_internal_stringslite_HasPrefix) true 66 Try.f66 [.ty 9, .ty 9] [4] (strings_HasPrefix_sums c_internal_stringslite_HasPrefix n) a = strings_HasPrefix c_internal_stringslite_HasPrefix n a.1 a.2 := by
  intro a
  kernel_rfl
theorem strings_HasPrefix_hT {K : CallT} (c_internal_stringslite_HasPrefix : (List UInt8) × (List UInt8) → Option Bool) (h0 : Meets U (callV C K) 77 ⟨true, [.ty 9, .ty 9], [4], c_internal_stringslite_HasPrefix⟩)  : CallsOk (strings_HasPrefix_x c_internal_stringslite_HasPrefix) (callV C K) :=
  ⟨(mall_cons h0 mall_nil), rall_nil⟩
theorem strings_HasPrefix_meets {K : CallT} (hK : ∀ args h, K 66 args h = none) (c_internal_stringslite_HasPrefix : (List UInt8) × (List UInt8) → Option Bool) (h0 : Meets U (callV C K) 77 ⟨true, [.ty 9, .ty 9], [4], c_internal_stringslite_HasPrefix⟩)  (t : PX X (AK.tys [.ty 9, .ty 9]) → Option (PX X [4])) (h : ∀ a r, t a = some r → ∃ n, strings_HasPrefix c_internal_stringslite_HasPrefix n a.1 a.2 = some r) : Meets U (callV C K) 66 ⟨true, [.ty 9, .ty 9], [4], t⟩ := by
  refine fnL_meets (x := strings_HasPrefix_x c_internal_stringslite_HasPrefix) (ak := [.ty 9, .ty 9]) (rts := [4]) (dir := true) ok (strings_HasPrefix_hT c_internal_stringslite_HasPrefix h0) hK Try.func66 strings_HasPrefix_ok fun a r hr => ?_
  obtain ⟨n, hn⟩ := h a r hr
  exact ⟨n, strings_HasPrefix_sums c_internal_stringslite_HasPrefix n, (laws_none (show loopsOf 0 (bodyOf Try.f66) = [] by kernel_rfl)), (strings_HasPrefix_e c_internal_stringslite_HasPrefix n a).trans hn⟩
-- 77 internal/stringslite.HasPrefix
def internal_stringslite_HasPrefix  (n : Nat) (p0 : List UInt8) (p1 : List UInt8)  : Option Bool :=
  Option.bind (cond (decide ((p0.length : Int) ≥ (p1.length : Int))) (subL p0 (0 : Int) (p1.length : Int)) (some [])) fun s1 =>
  Option.bind (some (cond (decide ((p0.length : Int) ≥ (p1.length : Int))) (s1 == p1) false)) fun m2 =>
  some m2
abbrev internal_stringslite_HasPrefix_T  : List (Nat × TCall X) := []
noncomputable abbrev internal_stringslite_HasPrefix_x  : Cx := ⟨C, U, internal_stringslite_HasPrefix_T , [], fun _ => []⟩
theorem internal_stringslite_HasPrefix_ok : okF (C.ann 77) Try.f77 2 = true := by kernel_rfl
noncomputable abbrev internal_stringslite_HasPrefix_sums  (n : Nat) : Sums (internal_stringslite_HasPrefix_x ) (PX X [4]) := []
theorem internal_stringslite_HasPrefix_e  (n : Nat) : ∀ a, fnL (internal_stringslite_HasPrefix_x ) true 77 Try.f77 [.ty 9, .ty 9] [4] (internal_stringslite_HasPrefix_sums  n) a = internal_stringslite_HasPrefix  n a.1 a.2 := by
  intro a
  kernel_rfl
theorem internal_stringslite_HasPrefix_hT {K : CallT}    : CallsOk (internal_stringslite_HasPrefix_x ) (callV C K) :=
  ⟨mall_nil, rall_nil⟩
theorem internal_stringslite_HasPrefix_meets {K : CallT} (hK : ∀ args h, K 77 args h = none)    (t : PX X (AK.tys [.ty 9, .ty 9]) → Option (PX X [4])) (h : ∀ a r, t a = some r → ∃ n, internal_stringslite_HasPrefix  n a.1 a.2 = some r) : Meets U (callV C K) 77 ⟨true, [.ty 9, .ty 9], [4], t⟩ := by
  refine fnL_meets (x := internal_stringslite_HasPrefix_x ) (ak := [.ty 9, .ty 9]) (rts := [4]) (dir := true) ok (internal_stringslite_HasPrefix_hT  ) hK Try.func77 internal_stringslite_HasPrefix_ok fun a r hr => ?_
  obtain ⟨n, hn⟩ := h a r hr
  exact ⟨n, internal_stringslite_HasPrefix_sums  n, (laws_none (show loopsOf 0 (bodyOf Try.f77) = [] by kernel_rfl)), (internal_stringslite_HasPrefix_e  n a).trans hn⟩
-- 42 vitrine/props.Custom
def props_Custom (c_strings_HasPrefix : (List UInt8) × (List UInt8) → Option Bool) (n : Nat) (p0 : List UInt8)  : Option Bool :=
  Option.bind (c_strings_HasPrefix (p0, [45, 45])) fun r1 =>
  Option.bind (some (cond r1 (decide ((p0.length : Int) > (2 : Int))) false)) fun m2 =>
  Option.bind (some (cond m2 (decide ((p0.length : Int) ≤ (64 : Int))) false)) fun m3 =>
  some m3
abbrev props_Custom_T (c_strings_HasPrefix : (List UInt8) × (List UInt8) → Option Bool) : List (Nat × TCall X) := [(66, ⟨true, [.ty 9, .ty 9], [4], c_strings_HasPrefix⟩)]
noncomputable abbrev props_Custom_x (c_strings_HasPrefix : (List UInt8) × (List UInt8) → Option Bool) : Cx := ⟨C, U, props_Custom_T c_strings_HasPrefix, [], fun _ => []⟩
theorem props_Custom_ok : okF (C.ann 42) Try.f42 1 = true := by kernel_rfl
noncomputable abbrev props_Custom_sums (c_strings_HasPrefix : (List UInt8) × (List UInt8) → Option Bool) (n : Nat) : Sums (props_Custom_x c_strings_HasPrefix) (PX X [4]) := []
theorem props_Custom_e (c_strings_HasPrefix : (List UInt8) × (List UInt8) → Option Bool) (n : Nat) : ∀ a, fnL (props_Custom_x c_strings_HasPrefix) true 42 Try.f42 [.ty 9] [4] (props_Custom_sums c_strings_HasPrefix n) a = props_Custom c_strings_HasPrefix n a := by
  intro a
  kernel_rfl
theorem props_Custom_hT {K : CallT} (c_strings_HasPrefix : (List UInt8) × (List UInt8) → Option Bool) (h0 : Meets U (callV C K) 66 ⟨true, [.ty 9, .ty 9], [4], c_strings_HasPrefix⟩)  : CallsOk (props_Custom_x c_strings_HasPrefix) (callV C K) :=
  ⟨(mall_cons h0 mall_nil), rall_nil⟩
theorem props_Custom_meets {K : CallT} (hK : ∀ args h, K 42 args h = none) (c_strings_HasPrefix : (List UInt8) × (List UInt8) → Option Bool) (h0 : Meets U (callV C K) 66 ⟨true, [.ty 9, .ty 9], [4], c_strings_HasPrefix⟩)  (t : PX X (AK.tys [.ty 9]) → Option (PX X [4])) (h : ∀ a r, t a = some r → ∃ n, props_Custom c_strings_HasPrefix n a = some r) : Meets U (callV C K) 42 ⟨true, [.ty 9], [4], t⟩ := by
  refine fnL_meets (x := props_Custom_x c_strings_HasPrefix) (ak := [.ty 9]) (rts := [4]) (dir := true) ok (props_Custom_hT c_strings_HasPrefix h0) hK Try.func42 props_Custom_ok fun a r hr => ?_
  obtain ⟨n, hn⟩ := h a r hr
  exact ⟨n, props_Custom_sums c_strings_HasPrefix n, (laws_none (show loopsOf 0 (bodyOf Try.f42) = [] by kernel_rfl)), (props_Custom_e c_strings_HasPrefix n a).trans hn⟩
-- 45 vitrine/vitrineref25.Custom
def ref25_Custom  (n : Nat) (p0 : List UInt8)  : Option Bool :=
  Option.bind (some (cond (decide ((p0.length : Int) > (2 : Int))) (decide ((p0.length : Int) ≤ (64 : Int))) false)) fun m1 =>
  Option.bind (cond m1 (subL p0 (0 : Int) (2 : Int)) (some [])) fun s2 =>
  Option.bind (some (cond m1 (s2 == [45, 45]) false)) fun m3 =>
  some m3
abbrev ref25_Custom_T  : List (Nat × TCall X) := []
noncomputable abbrev ref25_Custom_x  : Cx := ⟨C, U, ref25_Custom_T , [], fun _ => []⟩
theorem ref25_Custom_ok : okF (C.ann 45) Try.f45 1 = true := by kernel_rfl
noncomputable abbrev ref25_Custom_sums  (n : Nat) : Sums (ref25_Custom_x ) (PX X [4]) := []
theorem ref25_Custom_e  (n : Nat) : ∀ a, fnL (ref25_Custom_x ) true 45 Try.f45 [.ty 9] [4] (ref25_Custom_sums  n) a = ref25_Custom  n a := by
  intro a
  kernel_rfl
theorem ref25_Custom_hT {K : CallT}    : CallsOk (ref25_Custom_x ) (callV C K) :=
  ⟨mall_nil, rall_nil⟩
theorem ref25_Custom_meets {K : CallT} (hK : ∀ args h, K 45 args h = none)    (t : PX X (AK.tys [.ty 9]) → Option (PX X [4])) (h : ∀ a r, t a = some r → ∃ n, ref25_Custom  n a = some r) : Meets U (callV C K) 45 ⟨true, [.ty 9], [4], t⟩ := by
  refine fnL_meets (x := ref25_Custom_x ) (ak := [.ty 9]) (rts := [4]) (dir := true) ok (ref25_Custom_hT  ) hK Try.func45 ref25_Custom_ok fun a r hr => ?_
  obtain ⟨n, hn⟩ := h a r hr
  exact ⟨n, ref25_Custom_sums  n, (laws_none (show loopsOf 0 (bodyOf Try.f45) = [] by kernel_rfl)), (ref25_Custom_e  n a).trans hn⟩
-- 52 vitrine/short.small
def short_small_L0  {R : Type} (n : Nat) (a2 : List UInt8) (a3 : Nat) (a8 : Nat) (a9 : Int) (kx0 : List Int → Option R)  (y10 : Int) (h1 : List Int) (k : Int → List Int → Option R) : Option R :=
  cond (decide (y10 < a9))
  (Option.bind (if 0 ≤ y10 ∧ y10 < a8 ∧ y10 < h1.length then some y10.toNat else none) fun i3 =>
  Option.bind (h1[i3]?) fun e4 =>
  Option.bind (some (cond (decide (e4 ≥ (65 : Int))) (decide (e4 ≤ (90 : Int))) false)) fun m5 =>
  Option.bind (cond m5 (if 0 ≤ y10 ∧ y10 < a3 ∧ y10 < h1.length then some y10.toNat else none) (some 0)) fun i6 =>
  Option.bind (cond m5 (if i6 < h1.length then some (h1.set i6 (IntKind.u8.wrap ((IntKind.u8.wrap (e4 + (97 : Int))) - (65 : Int)))) else none) (some h1)) fun a7 =>
  Option.bind (some (cond m5 a7 h1)) fun m8 =>
  k (IntKind.i64.wrap (y10 + (1 : Int))) m8)
  (kx0 h1)
def short_small  (n : Nat) (p0 : List UInt8)  : Option (List UInt8) :=
  loop2 (short_small_L0  n [] p0.length p0.length (p0.length : Int) (fun z1 =>
  Option.bind (if p0.length ≤ z1.length then some (unbytes (z1.take p0.length)) else none) fun s2 =>
  some s2)) n (0 : Int) (tobytes p0)
abbrev short_small_T  : List (Nat × TCall X) := []
noncomputable abbrev short_small_x  : Cx := ⟨C, U, short_small_T , [], fun _ => []⟩
theorem short_small_ok : okF (C.ann 52) Try.f52 1 = true := by kernel_rfl
abbrev short_small_L0_D : LD := ⟨0, [.val 2 9, .osl 3 0 5, .osl 8 0 5, .val 9 2], [.val 10 2, .harr false 5], [(0, [.harr false 5])], []⟩
abbrev short_small_L0_g  (n : Nat) : LG U (PX X [9]) short_small_L0_D := fun c kx kr y k => short_small_L0  n c.1 c.2.1 c.2.2.1 c.2.2.2.1 (fun z0 => kx 0 (z0, ())) y.1 y.2.1 (fun z0 z1 => k (z0, z1, ()))
noncomputable abbrev short_small_sums  (n : Nat) : Sums (short_small_x ) (PX X [9]) := [(0, runL U short_small_L0_D (short_small_L0_g  n) n)]
theorem short_small_L0_e  (n : Nat) : ∀ c kx kr y k1, evL (short_small_x ) (ann 52) (short_small_sums  n) 0 (loopOf (bodyOf Try.f52) 0) (kontL U short_small_L0_D kx kr k1) (encS U short_small_L0_D.cap short_small_L0_D.din c y) = short_small_L0_g  n c (fun i z => kx i c z) kr y (fun y2 => k1 c y2) := by
  intro c kx kr y k1
  kernel_rfl
theorem short_small_e  (n : Nat) : ∀ a, fnL (short_small_x ) true 52 Try.f52 [.ty 9] [9] (short_small_sums  n) a = short_small  n a := by
  intro a
  kernel_rfl
theorem short_small_hT {K : CallT}    : CallsOk (short_small_x ) (callV C K) :=
  ⟨mall_nil, rall_nil⟩
theorem short_small_L0_law {K : CallT}    (n : Nat) (b0 : Base) (bn0 : b0.nr ≤ 0) : Law (short_small_x ) b0 (callV C K) (ann 52) n (loopOf (bodyOf Try.f52) 0) (runL U short_small_L0_D (short_small_L0_g  n) n) :=
  law_of (x := short_small_x ) (id := 0) ok (short_small_hT  ) (sums := short_small_sums  n) (laws_none (show loopsOf 0 (loopOf (bodyOf Try.f52) 0) = [] by kernel_rfl)) short_small_L0_D bn0 (short_small_L0_g  n) (short_small_L0_e  n)
theorem short_small_meets {K : CallT} (hK : ∀ args h, K 52 args h = none)    (t : PX X (AK.tys [.ty 9]) → Option (PX X [9])) (h : ∀ a r, t a = some r → ∃ n, short_small  n a = some r) : Meets U (callV C K) 52 ⟨true, [.ty 9], [9], t⟩ := by
  refine fnL_meets (x := short_small_x ) (ak := [.ty 9]) (rts := [9]) (dir := true) ok (short_small_hT  ) hK Try.func52 short_small_ok fun a r hr => ?_
  obtain ⟨n, hn⟩ := h a r hr
  exact ⟨n, short_small_sums  n, (laws_ids (ids := [0]) (by kernel_rfl) (by decide) (fun i hi => by
    simp only [List.mem_cons, List.not_mem_nil, or_false] at hi
    rcases hi with rfl
    · exact laws_one (c2 := loopOf (bodyOf Try.f52) 0) (by kernel_rfl) (by kernel_rfl) (short_small_L0_law   _ _ (Nat.le_refl _))
    )), (short_small_e  n a).trans hn⟩
-- 53 vitrine/vitrineref26.Small
def ref26_Small_L0  {R : Type} (n : Nat) (a2 : List UInt8) (a3 : Nat) (kx0 : List Int → Option R)  (y4 : Int) (h1 : List Int) (k : Int → List Int → Option R) : Option R :=
  cond (decide (y4 < (a3 : Int)))
  (Option.bind (if 0 ≤ y4 ∧ y4 < a3 ∧ y4 < h1.length then some y4.toNat else none) fun i3 =>
  Option.bind (h1[i3]?) fun e4 =>
  Option.bind (cond (decide (e4 ≥ (65 : Int))) (if 0 ≤ y4 ∧ y4 < a3 ∧ y4 < h1.length then some y4.toNat else none) (some 0)) fun i5 =>
  Option.bind (cond (decide (e4 ≥ (65 : Int))) (h1[i5]?) (some (0 : Int))) fun e6 =>
  Option.bind (some (cond (decide (e4 ≥ (65 : Int))) (decide (e6 ≤ (90 : Int))) false)) fun m7 =>
  Option.bind (cond m7 (if 0 ≤ y4 ∧ y4 < a3 ∧ y4 < h1.length then some y4.toNat else none) (some 0)) fun i8 =>
  Option.bind (cond m7 (h1[i8]?) (some (0 : Int))) fun e9 =>
  Option.bind (cond m7 (if 0 ≤ y4 ∧ y4 < a3 ∧ y4 < h1.length then some y4.toNat else none) (some 0)) fun i10 =>
  Option.bind (cond m7 (if i10 < h1.length then some (h1.set i10 (IntKind.u8.wrap (e9 + (32 : Int)))) else none) (some h1)) fun a11 =>
  Option.bind (some (cond m7 a11 h1)) fun m12 =>
  k (IntKind.i64.wrap (y4 + (1 : Int))) m12)
  (kx0 h1)
def ref26_Small  (n : Nat) (p0 : List UInt8)  : Option (List UInt8) :=
  loop2 (ref26_Small_L0  n [] p0.length (fun z1 =>
  Option.bind (if p0.length ≤ z1.length then some (unbytes (z1.take p0.length)) else none) fun s2 =>
  some s2)) n (0 : Int) (tobytes p0)
abbrev ref26_Small_T  : List (Nat × TCall X) := []
noncomputable abbrev ref26_Small_x  : Cx := ⟨C, U, ref26_Small_T , [], fun _ => []⟩
theorem ref26_Small_ok : okF (C.ann 53) Try.f53 1 = true := by kernel_rfl
abbrev ref26_Small_L0_D : LD := ⟨0, [.val 2 9, .osl 3 0 5], [.val 4 2, .harr false 5], [(0, [.harr false 5])], []⟩
abbrev ref26_Small_L0_g  (n : Nat) : LG U (PX X [9]) ref26_Small_L0_D := fun c kx kr y k => ref26_Small_L0  n c.1 c.2.1 (fun z0 => kx 0 (z0, ())) y.1 y.2.1 (fun z0 z1 => k (z0, z1, ()))
noncomputable abbrev ref26_Small_sums  (n : Nat) : Sums (ref26_Small_x ) (PX X [9]) := [(0, runL U ref26_Small_L0_D (ref26_Small_L0_g  n) n)]
theorem ref26_Small_L0_e  (n : Nat) : ∀ c kx kr y k1, evL (ref26_Small_x ) (ann 53) (ref26_Small_sums  n) 0 (loopOf (bodyOf Try.f53) 0) (kontL U ref26_Small_L0_D kx kr k1) (encS U ref26_Small_L0_D.cap ref26_Small_L0_D.din c y) = ref26_Small_L0_g  n c (fun i z => kx i c z) kr y (fun y2 => k1 c y2) := by
  intro c kx kr y k1
  kernel_rfl
theorem ref26_Small_e  (n : Nat) : ∀ a, fnL (ref26_Small_x ) true 53 Try.f53 [.ty 9] [9] (ref26_Small_sums  n) a = ref26_Small  n a := by
  intro a
  kernel_rfl
theorem ref26_Small_hT {K : CallT}    : CallsOk (ref26_Small_x ) (callV C K) :=
  ⟨mall_nil, rall_nil⟩
theorem ref26_Small_L0_law {K : CallT}    (n : Nat) (b0 : Base) (bn0 : b0.nr ≤ 0) : Law (ref26_Small_x ) b0 (callV C K) (ann 53) n (loopOf (bodyOf Try.f53) 0) (runL U ref26_Small_L0_D (ref26_Small_L0_g  n) n) :=
  law_of (x := ref26_Small_x ) (id := 0) ok (ref26_Small_hT  ) (sums := ref26_Small_sums  n) (laws_none (show loopsOf 0 (loopOf (bodyOf Try.f53) 0) = [] by kernel_rfl)) ref26_Small_L0_D bn0 (ref26_Small_L0_g  n) (ref26_Small_L0_e  n)
theorem ref26_Small_meets {K : CallT} (hK : ∀ args h, K 53 args h = none)    (t : PX X (AK.tys [.ty 9]) → Option (PX X [9])) (h : ∀ a r, t a = some r → ∃ n, ref26_Small  n a = some r) : Meets U (callV C K) 53 ⟨true, [.ty 9], [9], t⟩ := by
  refine fnL_meets (x := ref26_Small_x ) (ak := [.ty 9]) (rts := [9]) (dir := true) ok (ref26_Small_hT  ) hK Try.func53 ref26_Small_ok fun a r hr => ?_
  obtain ⟨n, hn⟩ := h a r hr
  exact ⟨n, ref26_Small_sums  n, (laws_ids (ids := [0]) (by kernel_rfl) (by decide) (fun i hi => by
    simp only [List.mem_cons, List.not_mem_nil, or_false] at hi
    rcases hi with rfl
    · exact laws_one (c2 := loopOf (bodyOf Try.f53) 0) (by kernel_rfl) (by kernel_rfl) (ref26_Small_L0_law   _ _ (Nat.le_refl _))
    )), (ref26_Small_e  n a).trans hn⟩
end Go.Tev.S1
namespace Go.Tev.S1
open Go.Abs Go.Proofs
-- 51 vitrine/short.Var$1
def short_Var_1 (c_short_small : (List UInt8) → Option (List UInt8)) (c_short_Var : (List Val) → Option Bool) (n : Nat) (p0 : Val)  : Option Bool :=
  Option.bind (cond (p0.tok.k == (2 : Int)) (c_short_small p0.tok.t) (some [])) fun r1 =>
  Option.bind (some (cond (p0.tok.k == (2 : Int)) (r1 == [118, 97, 114]) false)) fun m2 =>
  Option.bind (cond (!m2) (c_short_Var p0.l) (some false)) fun r3 =>
  Option.bind (some (cond m2 true r3)) fun m4 =>
  some m4
abbrev short_Var_1_T (c_short_small : (List UInt8) → Option (List UInt8)) (c_short_Var : (List Val) → Option Bool) : List (Nat × TCall X) := [(52, ⟨true, [.ty 9], [9], c_short_small⟩), (29, ⟨true, [.ty 33], [4], c_short_Var⟩)]
noncomputable abbrev short_Var_1_x (c_short_small : (List UInt8) → Option (List UInt8)) (c_short_Var : (List Val) → Option Bool) : Cx := ⟨C, U, short_Var_1_T c_short_small c_short_Var, [], fun _ => []⟩
theorem short_Var_1_ok : okF (C.ann 51) Try.f51 1 = true := by kernel_rfl
noncomputable abbrev short_Var_1_sums (c_short_small : (List UInt8) → Option (List UInt8)) (c_short_Var : (List Val) → Option Bool) (n : Nat) : Sums (short_Var_1_x c_short_small c_short_Var) (PX X [4]) := []
theorem short_Var_1_e (c_short_small : (List UInt8) → Option (List UInt8)) (c_short_Var : (List Val) → Option Bool) (n : Nat) : ∀ a, fnL (short_Var_1_x c_short_small c_short_Var) true 51 Try.f51 [.ty 60] [4] (short_Var_1_sums c_short_small c_short_Var n) a = short_Var_1 c_short_small c_short_Var n a := by
  intro a
  kernel_rfl
theorem short_Var_1_hT {K : CallT} (c_short_small : (List UInt8) → Option (List UInt8)) (c_short_Var : (List Val) → Option Bool) (h0 : Meets U (callV C K) 52 ⟨true, [.ty 9], [9], c_short_small⟩) (h1 : Meets U (callV C K) 29 ⟨true, [.ty 33], [4], c_short_Var⟩)  : CallsOk (short_Var_1_x c_short_small c_short_Var) (callV C K) :=
  ⟨(mall_cons h0 (mall_cons h1 mall_nil)), rall_nil⟩
theorem short_Var_1_meets {K : CallT} (hK : ∀ args h, K 51 args h = none) (c_short_small : (List UInt8) → Option (List UInt8)) (c_short_Var : (List Val) → Option Bool) (h0 : Meets U (callV C K) 52 ⟨true, [.ty 9], [9], c_short_small⟩) (h1 : Meets U (callV C K) 29 ⟨true, [.ty 33], [4], c_short_Var⟩)  (t : PX X (AK.tys [.ty 60]) → Option (PX X [4])) (h : ∀ a r, t a = some r → ∃ n, short_Var_1 c_short_small c_short_Var n a = some r) : Meets U (callV C K) 51 ⟨true, [.ty 60], [4], t⟩ := by
  refine fnL_meets (x := short_Var_1_x c_short_small c_short_Var) (ak := [.ty 60]) (rts := [4]) (dir := true) ok (short_Var_1_hT c_short_small c_short_Var h0 h1) hK Try.func51 short_Var_1_ok fun a r hr => ?_
  obtain ⟨n, hn⟩ := h a r hr
  exact ⟨n, short_Var_1_sums c_short_small c_short_Var n, (laws_none (show loopsOf 0 (bodyOf Try.f51) = [] by kernel_rfl)), (short_Var_1_e c_short_small c_short_Var n a).trans hn⟩
-- 50 slices.ContainsFunc[[]vitrine/api.Value,vitrine/api.Value]
def slices_ContainsFuncapi_Value_api_Value_short_Var_1 (c_slices_IndexFuncapi_Value_api_Value_short_Var_1 : (List Val) → Option Int) (n : Nat) (p0 : List Val)  : Option Bool :=
  Option.bind (c_slices_IndexFuncapi_Value_api_Value_short_Var_1 p0) fun r1 =>
  some (decide (r1 ≥ (0 : Int)))
abbrev slices_ContainsFuncapi_Value_api_Value_short_Var_1_T (c_slices_IndexFuncapi_Value_api_Value_short_Var_1 : (List Val) → Option Int) : List (Nat × TCall X) := [(70, ⟨true, [.ty 33, .fn 51], [3], c_slices_IndexFuncapi_Value_api_Value_short_Var_1⟩)]
noncomputable abbrev slices_ContainsFuncapi_Value_api_Value_short_Var_1_x (c_slices_IndexFuncapi_Value_api_Value_short_Var_1 : (List Val) → Option Int) : Cx := ⟨C, U, slices_ContainsFuncapi_Value_api_Value_short_Var_1_T c_slices_IndexFuncapi_Value_api_Value_short_Var_1, [], fun _ => []⟩
theorem slices_ContainsFuncapi_Value_api_Value_short_Var_1_ok : okF (C.ann 50) Try.f50 2 = true := by kernel_rfl
noncomputable abbrev slices_ContainsFuncapi_Value_api_Value_short_Var_1_sums (c_slices_IndexFuncapi_Value_api_Value_short_Var_1 : (List Val) → Option Int) (n : Nat) : Sums (slices_ContainsFuncapi_Value_api_Value_short_Var_1_x c_slices_IndexFuncapi_Value_api_Value_short_Var_1) (PX X [4]) := []
theorem slices_ContainsFuncapi_Value_api_Value_short_Var_1_e (c_slices_IndexFuncapi_Value_api_Value_short_Var_1 : (List Val) → Option Int) (n : Nat) : ∀ a, fnL (slices_ContainsFuncapi_Value_api_Value_short_Var_1_x c_slices_IndexFuncapi_Value_api_Value_short_Var_1) true 50 Try.f50 [.ty 33, .fn 51] [4] (slices_ContainsFuncapi_Value_api_Value_short_Var_1_sums c_slices_IndexFuncapi_Value_api_Value_short_Var_1 n) a = slices_ContainsFuncapi_Value_api_Value_short_Var_1 c_slices_IndexFuncapi_Value_api_Value_short_Var_1 n a := by
  intro a
  kernel_rfl
theorem slices_ContainsFuncapi_Value_api_Value_short_Var_1_hT {K : CallT} (c_slices_IndexFuncapi_Value_api_Value_short_Var_1 : (List Val) → Option Int) (h0 : Meets U (callV C K) 70 ⟨true, [.ty 33, .fn 51], [3], c_slices_IndexFuncapi_Value_api_Value_short_Var_1⟩)  : CallsOk (slices_ContainsFuncapi_Value_api_Value_short_Var_1_x c_slices_IndexFuncapi_Value_api_Value_short_Var_1) (callV C K) :=
  ⟨(mall_cons h0 mall_nil), rall_nil⟩
theorem slices_ContainsFuncapi_Value_api_Value_short_Var_1_meets {K : CallT} (hK : ∀ args h, K 50 args h = none) (c_slices_IndexFuncapi_Value_api_Value_short_Var_1 : (List Val) → Option Int) (h0 : Meets U (callV C K) 70 ⟨true, [.ty 33, .fn 51], [3], c_slices_IndexFuncapi_Value_api_Value_short_Var_1⟩)  (t : PX X (AK.tys [.ty 33, .fn 51]) → Option (PX X [4])) (h : ∀ a r, t a = some r → ∃ n, slices_ContainsFuncapi_Value_api_Value_short_Var_1 c_slices_IndexFuncapi_Value_api_Value_short_Var_1 n a = some r) : Meets U (callV C K) 50 ⟨true, [.ty 33, .fn 51], [4], t⟩ := by
  refine fnL_meets (x := slices_ContainsFuncapi_Value_api_Value_short_Var_1_x c_slices_IndexFuncapi_Value_api_Value_short_Var_1) (ak := [.ty 33, .fn 51]) (rts := [4]) (dir := true) ok (slices_ContainsFuncapi_Value_api_Value_short_Var_1_hT c_slices_IndexFuncapi_Value_api_Value_short_Var_1 h0) hK Try.func50 slices_ContainsFuncapi_Value_api_Value_short_Var_1_ok fun a r hr => ?_
  obtain ⟨n, hn⟩ := h a r hr
  exact ⟨n, slices_ContainsFuncapi_Value_api_Value_short_Var_1_sums c_slices_IndexFuncapi_Value_api_Value_short_Var_1 n, (laws_none (show loopsOf 0 (bodyOf Try.f50) = [] by kernel_rfl)), (slices_ContainsFuncapi_Value_api_Value_short_Var_1_e c_slices_IndexFuncapi_Value_api_Value_short_Var_1 n a).trans hn⟩
-- 70 slices.IndexFunc[[]vitrine/api.Value,vitrine/api.Value]
def slices_IndexFuncapi_Value_api_Value_short_Var_1_L0 (c_short_Var_1 : Val → Option Bool) {R : Type} (n : Nat) (a0 : List Val) (_ : Unit) (a7 : Int) (kx0 : Int → Option R) (kr : Int → Option R) (y4 : Int) (y8 : Int) (k : Int → Int → Option R) : Option R :=
  cond (decide (y8 < a7))
  (Option.bind (getI a0 y8) fun x3 =>
  Option.bind (c_short_Var_1 (Val.mk x3.tok x3.l)) fun r4 =>
  cond r4
  (kr y8)
  (k y4 (IntKind.i64.wrap (y8 + (1 : Int)))))
  (kx0 y4)
def slices_IndexFuncapi_Value_api_Value_short_Var_1 (c_short_Var_1 : Val → Option Bool) (n : Nat) (p0 : List Val)  : Option Int :=
  loop2 (slices_IndexFuncapi_Value_api_Value_short_Var_1_L0 c_short_Var_1 n p0 () (p0.length : Int) (fun z1 =>
  some (-1 : Int)) (fun z2 =>
  some z2)) n (0 : Int) (0 : Int)
abbrev slices_IndexFuncapi_Value_api_Value_short_Var_1_T (c_short_Var_1 : Val → Option Bool) : List (Nat × TCall X) := [(51, ⟨true, [.ty 60], [4], c_short_Var_1⟩)]
noncomputable abbrev slices_IndexFuncapi_Value_api_Value_short_Var_1_x (c_short_Var_1 : Val → Option Bool) : Cx := ⟨C, U, slices_IndexFuncapi_Value_api_Value_short_Var_1_T c_short_Var_1, [], fun _ => []⟩
theorem slices_IndexFuncapi_Value_api_Value_short_Var_1_ok : okF (C.ann 70) Try.f70 2 = true := by kernel_rfl
abbrev slices_IndexFuncapi_Value_api_Value_short_Var_1_L0_D : LD := ⟨0, [.val 0 33, .fn 1 51, .val 7 2], [.val 4 2, .val 8 2], [(0, [.val 4 2])], [.val 4 3]⟩
abbrev slices_IndexFuncapi_Value_api_Value_short_Var_1_L0_g (c_short_Var_1 : Val → Option Bool) (n : Nat) : LG U (PX X [3]) slices_IndexFuncapi_Value_api_Value_short_Var_1_L0_D := fun c kx kr y k => slices_IndexFuncapi_Value_api_Value_short_Var_1_L0 c_short_Var_1 n c.1 c.2.1 c.2.2.1 (fun z0 => kx 0 (z0, ())) (fun z0 => kr (z0, ())) y.1 y.2.1 (fun z0 z1 => k (z0, z1, ()))
noncomputable abbrev slices_IndexFuncapi_Value_api_Value_short_Var_1_sums (c_short_Var_1 : Val → Option Bool) (n : Nat) : Sums (slices_IndexFuncapi_Value_api_Value_short_Var_1_x c_short_Var_1) (PX X [3]) := [(0, runL U slices_IndexFuncapi_Value_api_Value_short_Var_1_L0_D (slices_IndexFuncapi_Value_api_Value_short_Var_1_L0_g c_short_Var_1 n) n)]
theorem slices_IndexFuncapi_Value_api_Value_short_Var_1_L0_e (c_short_Var_1 : Val → Option Bool) (n : Nat) : ∀ c kx kr y k1, evL (slices_IndexFuncapi_Value_api_Value_short_Var_1_x c_short_Var_1) (ann 70) (slices_IndexFuncapi_Value_api_Value_short_Var_1_sums c_short_Var_1 n) 0 (loopOf (bodyOf Try.f70) 0) (kontL U slices_IndexFuncapi_Value_api_Value_short_Var_1_L0_D kx kr k1) (encS U slices_IndexFuncapi_Value_api_Value_short_Var_1_L0_D.cap slices_IndexFuncapi_Value_api_Value_short_Var_1_L0_D.din c y) = slices_IndexFuncapi_Value_api_Value_short_Var_1_L0_g c_short_Var_1 n c (fun i z => kx i c z) kr y (fun y2 => k1 c y2) := by
  intro c kx kr y k1
  kernel_rfl
theorem slices_IndexFuncapi_Value_api_Value_short_Var_1_e (c_short_Var_1 : Val → Option Bool) (n : Nat) : ∀ a, fnL (slices_IndexFuncapi_Value_api_Value_short_Var_1_x c_short_Var_1) true 70 Try.f70 [.ty 33, .fn 51] [3] (slices_IndexFuncapi_Value_api_Value_short_Var_1_sums c_short_Var_1 n) a = slices_IndexFuncapi_Value_api_Value_short_Var_1 c_short_Var_1 n a := by
  intro a
  kernel_rfl
theorem slices_IndexFuncapi_Value_api_Value_short_Var_1_hT {K : CallT} (c_short_Var_1 : Val → Option Bool) (h0 : Meets U (callV C K) 51 ⟨true, [.ty 60], [4], c_short_Var_1⟩)  : CallsOk (slices_IndexFuncapi_Value_api_Value_short_Var_1_x c_short_Var_1) (callV C K) :=
  ⟨(mall_cons h0 mall_nil), rall_nil⟩
theorem slices_IndexFuncapi_Value_api_Value_short_Var_1_L0_law {K : CallT} (c_short_Var_1 : Val → Option Bool) (h0 : Meets U (callV C K) 51 ⟨true, [.ty 60], [4], c_short_Var_1⟩)  (n : Nat) (b0 : Base) (bn0 : b0.nr ≤ 0) : Law (slices_IndexFuncapi_Value_api_Value_short_Var_1_x c_short_Var_1) b0 (callV C K) (ann 70) n (loopOf (bodyOf Try.f70) 0) (runL U slices_IndexFuncapi_Value_api_Value_short_Var_1_L0_D (slices_IndexFuncapi_Value_api_Value_short_Var_1_L0_g c_short_Var_1 n) n) :=
  law_of (x := slices_IndexFuncapi_Value_api_Value_short_Var_1_x c_short_Var_1) (id := 0) ok (slices_IndexFuncapi_Value_api_Value_short_Var_1_hT c_short_Var_1 h0) (sums := slices_IndexFuncapi_Value_api_Value_short_Var_1_sums c_short_Var_1 n) (laws_none (show loopsOf 0 (loopOf (bodyOf Try.f70) 0) = [] by kernel_rfl)) slices_IndexFuncapi_Value_api_Value_short_Var_1_L0_D bn0 (slices_IndexFuncapi_Value_api_Value_short_Var_1_L0_g c_short_Var_1 n) (slices_IndexFuncapi_Value_api_Value_short_Var_1_L0_e c_short_Var_1 n)
theorem slices_IndexFuncapi_Value_api_Value_short_Var_1_meets {K : CallT} (hK : ∀ args h, K 70 args h = none) (c_short_Var_1 : Val → Option Bool) (h0 : Meets U (callV C K) 51 ⟨true, [.ty 60], [4], c_short_Var_1⟩)  (t : PX X (AK.tys [.ty 33, .fn 51]) → Option (PX X [3])) (h : ∀ a r, t a = some r → ∃ n, slices_IndexFuncapi_Value_api_Value_short_Var_1 c_short_Var_1 n a = some r) : Meets U (callV C K) 70 ⟨true, [.ty 33, .fn 51], [3], t⟩ := by
  refine fnL_meets (x := slices_IndexFuncapi_Value_api_Value_short_Var_1_x c_short_Var_1) (ak := [.ty 33, .fn 51]) (rts := [3]) (dir := true) ok (slices_IndexFuncapi_Value_api_Value_short_Var_1_hT c_short_Var_1 h0) hK Try.func70 slices_IndexFuncapi_Value_api_Value_short_Var_1_ok fun a r hr => ?_
  obtain ⟨n, hn⟩ := h a r hr
  exact ⟨n, slices_IndexFuncapi_Value_api_Value_short_Var_1_sums c_short_Var_1 n, (laws_ids (ids := [0]) (by kernel_rfl) (by decide) (fun i hi => by
    simp only [List.mem_cons, List.not_mem_nil, or_false] at hi
    rcases hi with rfl
    · exact laws_one (c2 := loopOf (bodyOf Try.f70) 0) (by kernel_rfl) (by kernel_rfl) (slices_IndexFuncapi_Value_api_Value_short_Var_1_L0_law c_short_Var_1 h0 _ _ (Nat.le_refl _))
    )), (slices_IndexFuncapi_Value_api_Value_short_Var_1_e c_short_Var_1 n a).trans hn⟩
-- 29 vitrine/short.Var
def short_Var (c_slices_ContainsFuncapi_Value_api_Value_short_Var_1 : (List Val) → Option Bool) (n : Nat) (p0 : List Val)  : Option Bool :=
  Option.bind (c_slices_ContainsFuncapi_Value_api_Value_short_Var_1 p0) fun r1 =>
  some r1
abbrev short_Var_T (c_slices_ContainsFuncapi_Value_api_Value_short_Var_1 : (List Val) → Option Bool) : List (Nat × TCall X) := [(50, ⟨true, [.ty 33, .fn 51], [4], c_slices_ContainsFuncapi_Value_api_Value_short_Var_1⟩)]
noncomputable abbrev short_Var_x (c_slices_ContainsFuncapi_Value_api_Value_short_Var_1 : (List Val) → Option Bool) : Cx := ⟨C, U, short_Var_T c_slices_ContainsFuncapi_Value_api_Value_short_Var_1, [], fun _ => []⟩
theorem short_Var_ok : okF (C.ann 29) Try.f29 1 = true := by kernel_rfl
noncomputable abbrev short_Var_sums (c_slices_ContainsFuncapi_Value_api_Value_short_Var_1 : (List Val) → Option Bool) (n : Nat) : Sums (short_Var_x c_slices_ContainsFuncapi_Value_api_Value_short_Var_1) (PX X [4]) := []
theorem short_Var_e (c_slices_ContainsFuncapi_Value_api_Value_short_Var_1 : (List Val) → Option Bool) (n : Nat) : ∀ a, fnL (short_Var_x c_slices_ContainsFuncapi_Value_api_Value_short_Var_1) true 29 Try.f29 [.ty 33] [4] (short_Var_sums c_slices_ContainsFuncapi_Value_api_Value_short_Var_1 n) a = short_Var c_slices_ContainsFuncapi_Value_api_Value_short_Var_1 n a := by
  intro a
  kernel_rfl
theorem short_Var_hT {K : CallT} (c_slices_ContainsFuncapi_Value_api_Value_short_Var_1 : (List Val) → Option Bool) (h0 : Meets U (callV C K) 50 ⟨true, [.ty 33, .fn 51], [4], c_slices_ContainsFuncapi_Value_api_Value_short_Var_1⟩)  : CallsOk (short_Var_x c_slices_ContainsFuncapi_Value_api_Value_short_Var_1) (callV C K) :=
  ⟨(mall_cons h0 mall_nil), rall_nil⟩
theorem short_Var_meets {K : CallT} (hK : ∀ args h, K 29 args h = none) (c_slices_ContainsFuncapi_Value_api_Value_short_Var_1 : (List Val) → Option Bool) (h0 : Meets U (callV C K) 50 ⟨true, [.ty 33, .fn 51], [4], c_slices_ContainsFuncapi_Value_api_Value_short_Var_1⟩)  (t : PX X (AK.tys [.ty 33]) → Option (PX X [4])) (h : ∀ a r, t a = some r → ∃ n, short_Var c_slices_ContainsFuncapi_Value_api_Value_short_Var_1 n a = some r) : Meets U (callV C K) 29 ⟨true, [.ty 33], [4], t⟩ := by
  refine fnL_meets (x := short_Var_x c_slices_ContainsFuncapi_Value_api_Value_short_Var_1) (ak := [.ty 33]) (rts := [4]) (dir := true) ok (short_Var_hT c_slices_ContainsFuncapi_Value_api_Value_short_Var_1 h0) hK Try.func29 short_Var_ok fun a r hr => ?_
  obtain ⟨n, hn⟩ := h a r hr
  exact ⟨n, short_Var_sums c_slices_ContainsFuncapi_Value_api_Value_short_Var_1 n, (laws_none (show loopsOf 0 (bodyOf Try.f29) = [] by kernel_rfl)), (short_Var_e c_slices_ContainsFuncapi_Value_api_Value_short_Var_1 n a).trans hn⟩
-- 31 vitrine/vitrineref27.Var
def ref27_Var_L0 (c_ref26_Small : (List UInt8) → Option (List UInt8)) (c_ref27_Var : (List Val) → Option Bool) {R : Type} (n : Nat) (a0 : List Val) (kx0 : Bool → Option R) (kr : Bool → Option R) (y2 : Bool) (y3 : Int) (k : Bool → Int → Option R) : Option R :=
  cond (decide (y3 < (a0.length : Int)))
  (Option.bind (getI a0 y3) fun x3 =>
  Option.bind (cond (x3.tok.k == (2 : Int)) (c_ref26_Small x3.tok.t) (some [])) fun r4 =>
  Option.bind (some (cond (x3.tok.k == (2 : Int)) (r4 == [118, 97, 114]) false)) fun m5 =>
  Option.bind (cond (!m5) (getI a0 y3) (some zVal)) fun x6 =>
  Option.bind (cond (!m5) (c_ref27_Var x6.l) (some false)) fun r7 =>
  Option.bind (some (cond m5 true r7)) fun m8 =>
  cond m8
  (kr true)
  (k y2 (IntKind.i64.wrap (y3 + (1 : Int)))))
  (kx0 y2)
def ref27_Var (c_ref26_Small : (List UInt8) → Option (List UInt8)) (c_ref27_Var : (List Val) → Option Bool) (n : Nat) (p0 : List Val)  : Option Bool :=
  loop2 (ref27_Var_L0 c_ref26_Small c_ref27_Var n p0 (fun z1 =>
  some false) (fun z2 =>
  some z2)) n false (0 : Int)
abbrev ref27_Var_T (c_ref26_Small : (List UInt8) → Option (List UInt8)) (c_ref27_Var : (List Val) → Option Bool) : List (Nat × TCall X) := [(53, ⟨true, [.ty 9], [9], c_ref26_Small⟩), (31, ⟨true, [.ty 33], [4], c_ref27_Var⟩)]
noncomputable abbrev ref27_Var_x (c_ref26_Small : (List UInt8) → Option (List UInt8)) (c_ref27_Var : (List Val) → Option Bool) : Cx := ⟨C, U, ref27_Var_T c_ref26_Small c_ref27_Var, [], fun _ => []⟩
theorem ref27_Var_ok : okF (C.ann 31) Try.f31 1 = true := by kernel_rfl
abbrev ref27_Var_L0_D : LD := ⟨0, [.val 0 33], [.val 2 4, .val 3 2], [(0, [.val 2 4])], [.val 2 4]⟩
abbrev ref27_Var_L0_g (c_ref26_Small : (List UInt8) → Option (List UInt8)) (c_ref27_Var : (List Val) → Option Bool) (n : Nat) : LG U (PX X [4]) ref27_Var_L0_D := fun c kx kr y k => ref27_Var_L0 c_ref26_Small c_ref27_Var n c.1 (fun z0 => kx 0 (z0, ())) (fun z0 => kr (z0, ())) y.1 y.2.1 (fun z0 z1 => k (z0, z1, ()))
noncomputable abbrev ref27_Var_sums (c_ref26_Small : (List UInt8) → Option (List UInt8)) (c_ref27_Var : (List Val) → Option Bool) (n : Nat) : Sums (ref27_Var_x c_ref26_Small c_ref27_Var) (PX X [4]) := [(0, runL U ref27_Var_L0_D (ref27_Var_L0_g c_ref26_Small c_ref27_Var n) n)]
theorem ref27_Var_L0_e (c_ref26_Small : (List UInt8) → Option (List UInt8)) (c_ref27_Var : (List Val) → Option Bool) (n : Nat) : ∀ c kx kr y k1, evL (ref27_Var_x c_ref26_Small c_ref27_Var) (ann 31) (ref27_Var_sums c_ref26_Small c_ref27_Var n) 0 (loopOf (bodyOf Try.f31) 0) (kontL U ref27_Var_L0_D kx kr k1) (encS U ref27_Var_L0_D.cap ref27_Var_L0_D.din c y) = ref27_Var_L0_g c_ref26_Small c_ref27_Var n c (fun i z => kx i c z) kr y (fun y2 => k1 c y2) := by
  intro c kx kr y k1
  kernel_rfl
theorem ref27_Var_e (c_ref26_Small : (List UInt8) → Option (List UInt8)) (c_ref27_Var : (List Val) → Option Bool) (n : Nat) : ∀ a, fnL (ref27_Var_x c_ref26_Small c_ref27_Var) true 31 Try.f31 [.ty 33] [4] (ref27_Var_sums c_ref26_Small c_ref27_Var n) a = ref27_Var c_ref26_Small c_ref27_Var n a := by
  intro a
  kernel_rfl
theorem ref27_Var_hT {K : CallT} (c_ref26_Small : (List UInt8) → Option (List UInt8)) (c_ref27_Var : (List Val) → Option Bool) (h0 : Meets U (callV C K) 53 ⟨true, [.ty 9], [9], c_ref26_Small⟩) (h1 : Meets U (callV C K) 31 ⟨true, [.ty 33], [4], c_ref27_Var⟩)  : CallsOk (ref27_Var_x c_ref26_Small c_ref27_Var) (callV C K) :=
  ⟨(mall_cons h0 (mall_cons h1 mall_nil)), rall_nil⟩
theorem ref27_Var_L0_law {K : CallT} (c_ref26_Small : (List UInt8) → Option (List UInt8)) (c_ref27_Var : (List Val) → Option Bool) (h0 : Meets U (callV C K) 53 ⟨true, [.ty 9], [9], c_ref26_Small⟩) (h1 : Meets U (callV C K) 31 ⟨true, [.ty 33], [4], c_ref27_Var⟩)  (n : Nat) (b0 : Base) (bn0 : b0.nr ≤ 0) : Law (ref27_Var_x c_ref26_Small c_ref27_Var) b0 (callV C K) (ann 31) n (loopOf (bodyOf Try.f31) 0) (runL U ref27_Var_L0_D (ref27_Var_L0_g c_ref26_Small c_ref27_Var n) n) :=
  law_of (x := ref27_Var_x c_ref26_Small c_ref27_Var) (id := 0) ok (ref27_Var_hT c_ref26_Small c_ref27_Var h0 h1) (sums := ref27_Var_sums c_ref26_Small c_ref27_Var n) (laws_none (show loopsOf 0 (loopOf (bodyOf Try.f31) 0) = [] by kernel_rfl)) ref27_Var_L0_D bn0 (ref27_Var_L0_g c_ref26_Small c_ref27_Var n) (ref27_Var_L0_e c_ref26_Small c_ref27_Var n)
theorem ref27_Var_meets {K : CallT} (hK : ∀ args h, K 31 args h = none) (c_ref26_Small : (List UInt8) → Option (List UInt8)) (c_ref27_Var : (List Val) → Option Bool) (h0 : Meets U (callV C K) 53 ⟨true, [.ty 9], [9], c_ref26_Small⟩) (h1 : Meets U (callV C K) 31 ⟨true, [.ty 33], [4], c_ref27_Var⟩)  (t : PX X (AK.tys [.ty 33]) → Option (PX X [4])) (h : ∀ a r, t a = some r → ∃ n, ref27_Var c_ref26_Small c_ref27_Var n a = some r) : Meets U (callV C K) 31 ⟨true, [.ty 33], [4], t⟩ := by
  refine fnL_meets (x := ref27_Var_x c_ref26_Small c_ref27_Var) (ak := [.ty 33]) (rts := [4]) (dir := true) ok (ref27_Var_hT c_ref26_Small c_ref27_Var h0 h1) hK Try.func31 ref27_Var_ok fun a r hr => ?_
  obtain ⟨n, hn⟩ := h a r hr
  exact ⟨n, ref27_Var_sums c_ref26_Small c_ref27_Var n, (laws_ids (ids := [0]) (by kernel_rfl) (by decide) (fun i hi => by
    simp only [List.mem_cons, List.not_mem_nil, or_false] at hi
    rcases hi with rfl
    · exact laws_one (c2 := loopOf (bodyOf Try.f31) 0) (by kernel_rfl) (by kernel_rfl) (ref27_Var_L0_law c_ref26_Small c_ref27_Var h0 h1 _ _ (Nat.le_refl _))
    )), (ref27_Var_e c_ref26_Small c_ref27_Var n a).trans hn⟩
-- 20 vitrine/vitrineref27.SameTexts
def ref27_SameTexts_L0  {R : Type} (n : Nat) (a0 : List (List UInt8)) (a1 : List (List UInt8)) (kx0 : Bool → Option R) (kr : Bool → Option R) (y4 : Bool) (y5 : Int) (k : Bool → Int → Option R) : Option R :=
  cond (decide (y5 < (a0.length : Int)))
  (Option.bind (getI a0 y5) fun x3 =>
  Option.bind (getI a1 y5) fun x4 =>
  cond (x3 != x4)
  (kr false)
  (k y4 (IntKind.i64.wrap (y5 + (1 : Int)))))
  (kx0 y4)
def ref27_SameTexts  (n : Nat) (p0 : List (List UInt8)) (p1 : List (List UInt8))  : Option Bool :=
  cond ((p0.length : Int) != (p1.length : Int))
  (some false)
  (loop2 (ref27_SameTexts_L0  n p0 p1 (fun z1 =>
  some true) (fun z2 =>
  some z2)) n false (0 : Int))
abbrev ref27_SameTexts_T  : List (Nat × TCall X) := []
noncomputable abbrev ref27_SameTexts_x  : Cx := ⟨C, U, ref27_SameTexts_T , [], fun _ => []⟩
theorem ref27_SameTexts_ok : okF (C.ann 20) Try.f20 2 = true := by kernel_rfl
abbrev ref27_SameTexts_L0_D : LD := ⟨0, [.val 0 40, .val 1 40], [.val 4 4, .val 5 2], [(0, [.val 4 4])], [.val 4 4]⟩
abbrev ref27_SameTexts_L0_g  (n : Nat) : LG U (PX X [4]) ref27_SameTexts_L0_D := fun c kx kr y k => ref27_SameTexts_L0  n c.1 c.2.1 (fun z0 => kx 0 (z0, ())) (fun z0 => kr (z0, ())) y.1 y.2.1 (fun z0 z1 => k (z0, z1, ()))
noncomputable abbrev ref27_SameTexts_sums  (n : Nat) : Sums (ref27_SameTexts_x ) (PX X [4]) := [(0, runL U ref27_SameTexts_L0_D (ref27_SameTexts_L0_g  n) n)]
theorem ref27_SameTexts_L0_e  (n : Nat) : ∀ c kx kr y k1, evL (ref27_SameTexts_x ) (ann 20) (ref27_SameTexts_sums  n) 0 (loopOf (bodyOf Try.f20) 0) (kontL U ref27_SameTexts_L0_D kx kr k1) (encS U ref27_SameTexts_L0_D.cap ref27_SameTexts_L0_D.din c y) = ref27_SameTexts_L0_g  n c (fun i z => kx i c z) kr y (fun y2 => k1 c y2) := by
  intro c kx kr y k1
  kernel_rfl
theorem ref27_SameTexts_e  (n : Nat) : ∀ a, fnL (ref27_SameTexts_x ) true 20 Try.f20 [.ty 40, .ty 40] [4] (ref27_SameTexts_sums  n) a = ref27_SameTexts  n a.1 a.2 := by
  intro a
  kernel_rfl
theorem ref27_SameTexts_hT {K : CallT}    : CallsOk (ref27_SameTexts_x ) (callV C K) :=
  ⟨mall_nil, rall_nil⟩
theorem ref27_SameTexts_L0_law {K : CallT}    (n : Nat) (b0 : Base) (bn0 : b0.nr ≤ 0) : Law (ref27_SameTexts_x ) b0 (callV C K) (ann 20) n (loopOf (bodyOf Try.f20) 0) (runL U ref27_SameTexts_L0_D (ref27_SameTexts_L0_g  n) n) :=
  law_of (x := ref27_SameTexts_x ) (id := 0) ok (ref27_SameTexts_hT  ) (sums := ref27_SameTexts_sums  n) (laws_none (show loopsOf 0 (loopOf (bodyOf Try.f20) 0) = [] by kernel_rfl)) ref27_SameTexts_L0_D bn0 (ref27_SameTexts_L0_g  n) (ref27_SameTexts_L0_e  n)
theorem ref27_SameTexts_meets {K : CallT} (hK : ∀ args h, K 20 args h = none)    (t : PX X (AK.tys [.ty 40, .ty 40]) → Option (PX X [4])) (h : ∀ a r, t a = some r → ∃ n, ref27_SameTexts  n a.1 a.2 = some r) : Meets U (callV C K) 20 ⟨true, [.ty 40, .ty 40], [4], t⟩ := by
  refine fnL_meets (x := ref27_SameTexts_x ) (ak := [.ty 40, .ty 40]) (rts := [4]) (dir := true) ok (ref27_SameTexts_hT  ) hK Try.func20 ref27_SameTexts_ok fun a r hr => ?_
  obtain ⟨n, hn⟩ := h a r hr
  exact ⟨n, ref27_SameTexts_sums  n, (laws_ids (ids := [0]) (by kernel_rfl) (by decide) (fun i hi => by
    simp only [List.mem_cons, List.not_mem_nil, or_false] at hi
    rcases hi with rfl
    · exact laws_one (c2 := loopOf (bodyOf Try.f20) 0) (by kernel_rfl) (by kernel_rfl) (ref27_SameTexts_L0_law   _ _ (Nat.le_refl _))
    )), (ref27_SameTexts_e  n a).trans hn⟩
-- 13 vitrine/vitrineref26.Twin
def ref26_Twin_L0 (c_ref26_Twin : (List Val) → Option (List Val)) {R : Type} (n : Nat) (a0 : List Val) (a2 : List Val) (kx0 : List Val → Option R)  (y3 : List Val) (y4 : Int) (k : List Val → Int → Option R) : Option R :=
  cond (decide (y4 < (a0.length : Int)))
  (Option.bind (getI a0 y4) fun x2 =>
  Option.bind (getI a0 y4) fun x3 =>
  Option.bind (c_ref26_Twin x3.l) fun r4 =>
  Option.bind (Option.bind (room 80 (y3.length + [(Val.mk x2.tok r4)].length)) (fun _ => some (y3 ++ [(Val.mk x2.tok r4)]))) fun o5 =>
  k o5 (IntKind.i64.wrap (y4 + (1 : Int))))
  (kx0 y3)
def ref26_Twin (c_ref26_Twin : (List Val) → Option (List Val)) (n : Nat) (p0 : List Val)  : Option (List Val) :=
  loop2 (ref26_Twin_L0 c_ref26_Twin n p0 [] (fun z1 =>
  some z1)) n [] (0 : Int)
abbrev ref26_Twin_T (c_ref26_Twin : (List Val) → Option (List Val)) : List (Nat × TCall X) := [(13, ⟨true, [.ty 33], [33], c_ref26_Twin⟩)]
noncomputable abbrev ref26_Twin_x (c_ref26_Twin : (List Val) → Option (List Val)) : Cx := ⟨C, U, ref26_Twin_T c_ref26_Twin, [], fun _ => []⟩
theorem ref26_Twin_ok : okF (C.ann 13) Try.f13 1 = true := by kernel_rfl
abbrev ref26_Twin_L0_D : LD := ⟨0, [.val 0 33, .val 2 33], [.own 3 60, .val 4 2], [(0, [.own 3 60])], []⟩
abbrev ref26_Twin_L0_g (c_ref26_Twin : (List Val) → Option (List Val)) (n : Nat) : LG U (PX X [33]) ref26_Twin_L0_D := fun c kx kr y k => ref26_Twin_L0 c_ref26_Twin n c.1 c.2.1 (fun z0 => kx 0 (z0, ())) y.1 y.2.1 (fun z0 z1 => k (z0, z1, ()))
noncomputable abbrev ref26_Twin_sums (c_ref26_Twin : (List Val) → Option (List Val)) (n : Nat) : Sums (ref26_Twin_x c_ref26_Twin) (PX X [33]) := [(0, runL U ref26_Twin_L0_D (ref26_Twin_L0_g c_ref26_Twin n) n)]
theorem ref26_Twin_L0_e (c_ref26_Twin : (List Val) → Option (List Val)) (n : Nat) : ∀ c kx kr y k1, evL (ref26_Twin_x c_ref26_Twin) (ann 13) (ref26_Twin_sums c_ref26_Twin n) 0 (loopOf (bodyOf Try.f13) 0) (kontL U ref26_Twin_L0_D kx kr k1) (encS U ref26_Twin_L0_D.cap ref26_Twin_L0_D.din c y) = ref26_Twin_L0_g c_ref26_Twin n c (fun i z => kx i c z) kr y (fun y2 => k1 c y2) := by
  intro c kx kr y k1
  kernel_rfl
theorem ref26_Twin_e (c_ref26_Twin : (List Val) → Option (List Val)) (n : Nat) : ∀ a, fnL (ref26_Twin_x c_ref26_Twin) true 13 Try.f13 [.ty 33] [33] (ref26_Twin_sums c_ref26_Twin n) a = ref26_Twin c_ref26_Twin n a := by
  intro a
  kernel_rfl
theorem ref26_Twin_hT {K : CallT} (c_ref26_Twin : (List Val) → Option (List Val)) (h0 : Meets U (callV C K) 13 ⟨true, [.ty 33], [33], c_ref26_Twin⟩)  : CallsOk (ref26_Twin_x c_ref26_Twin) (callV C K) :=
  ⟨(mall_cons h0 mall_nil), rall_nil⟩
theorem ref26_Twin_L0_law {K : CallT} (c_ref26_Twin : (List Val) → Option (List Val)) (h0 : Meets U (callV C K) 13 ⟨true, [.ty 33], [33], c_ref26_Twin⟩)  (n : Nat) (b0 : Base) (bn0 : b0.nr ≤ 0) : Law (ref26_Twin_x c_ref26_Twin) b0 (callV C K) (ann 13) n (loopOf (bodyOf Try.f13) 0) (runL U ref26_Twin_L0_D (ref26_Twin_L0_g c_ref26_Twin n) n) :=
  law_of (x := ref26_Twin_x c_ref26_Twin) (id := 0) ok (ref26_Twin_hT c_ref26_Twin h0) (sums := ref26_Twin_sums c_ref26_Twin n) (laws_none (show loopsOf 0 (loopOf (bodyOf Try.f13) 0) = [] by kernel_rfl)) ref26_Twin_L0_D bn0 (ref26_Twin_L0_g c_ref26_Twin n) (ref26_Twin_L0_e c_ref26_Twin n)
theorem ref26_Twin_meets {K : CallT} (hK : ∀ args h, K 13 args h = none) (c_ref26_Twin : (List Val) → Option (List Val)) (h0 : Meets U (callV C K) 13 ⟨true, [.ty 33], [33], c_ref26_Twin⟩)  (t : PX X (AK.tys [.ty 33]) → Option (PX X [33])) (h : ∀ a r, t a = some r → ∃ n, ref26_Twin c_ref26_Twin n a = some r) : Meets U (callV C K) 13 ⟨true, [.ty 33], [33], t⟩ := by
  refine fnL_meets (x := ref26_Twin_x c_ref26_Twin) (ak := [.ty 33]) (rts := [33]) (dir := true) ok (ref26_Twin_hT c_ref26_Twin h0) hK Try.func13 ref26_Twin_ok fun a r hr => ?_
  obtain ⟨n, hn⟩ := h a r hr
  exact ⟨n, ref26_Twin_sums c_ref26_Twin n, (laws_ids (ids := [0]) (by kernel_rfl) (by decide) (fun i hi => by
    simp only [List.mem_cons, List.not_mem_nil, or_false] at hi
    rcases hi with rfl
    · exact laws_one (c2 := loopOf (bodyOf Try.f13) 0) (by kernel_rfl) (by kernel_rfl) (ref26_Twin_L0_law c_ref26_Twin h0 _ _ (Nat.le_refl _))
    )), (ref26_Twin_e c_ref26_Twin n a).trans hn⟩
-- 30 vitrine/vars.length
def vars_length_L0 (c_vars_length : (List Val) → Option Int) {R : Type} (n : Nat) (a2 : Int) (a6 : List Val) (a7 : Int) (kx0 : Int → Option R)  (y3 : Int) (y8 : Int) (k : Int → Int → Option R) : Option R :=
  cond (decide (y8 < a7))
  (Option.bind (getI a6 y8) fun x2 =>
  Option.bind (c_vars_length x2.l) fun r3 =>
  k (IntKind.i64.wrap (y3 + (IntKind.i64.wrap ((IntKind.i64.wrap ((IntKind.i64.wrap ((1 : Int) + (x2.tok.t.length : Int))) + (x2.tok.u.length : Int))) + r3)))) (IntKind.i64.wrap (y8 + (1 : Int))))
  (kx0 y3)
def vars_length (c_vars_length : (List Val) → Option Int) (n : Nat) (p0 : List Val)  : Option Int :=
  loop2 (vars_length_L0 c_vars_length n (0 : Int) p0 (p0.length : Int) (fun z1 =>
  some z1)) n (0 : Int) (0 : Int)
abbrev vars_length_T (c_vars_length : (List Val) → Option Int) : List (Nat × TCall X) := [(30, ⟨true, [.ty 33], [3], c_vars_length⟩)]
noncomputable abbrev vars_length_x (c_vars_length : (List Val) → Option Int) : Cx := ⟨C, U, vars_length_T c_vars_length, [], fun _ => []⟩
theorem vars_length_ok : okF (C.ann 30) Try.f30 1 = true := by kernel_rfl
abbrev vars_length_L0_D : LD := ⟨0, [.val 2 2, .val 6 33, .val 7 2], [.val 3 2, .val 8 2], [(0, [.val 3 2])], []⟩
abbrev vars_length_L0_g (c_vars_length : (List Val) → Option Int) (n : Nat) : LG U (PX X [3]) vars_length_L0_D := fun c kx kr y k => vars_length_L0 c_vars_length n c.1 c.2.1 c.2.2.1 (fun z0 => kx 0 (z0, ())) y.1 y.2.1 (fun z0 z1 => k (z0, z1, ()))
noncomputable abbrev vars_length_sums (c_vars_length : (List Val) → Option Int) (n : Nat) : Sums (vars_length_x c_vars_length) (PX X [3]) := [(0, runL U vars_length_L0_D (vars_length_L0_g c_vars_length n) n)]
theorem vars_length_L0_e (c_vars_length : (List Val) → Option Int) (n : Nat) : ∀ c kx kr y k1, evL (vars_length_x c_vars_length) (ann 30) (vars_length_sums c_vars_length n) 0 (loopOf (bodyOf Try.f30) 0) (kontL U vars_length_L0_D kx kr k1) (encS U vars_length_L0_D.cap vars_length_L0_D.din c y) = vars_length_L0_g c_vars_length n c (fun i z => kx i c z) kr y (fun y2 => k1 c y2) := by
  intro c kx kr y k1
  kernel_rfl
theorem vars_length_e (c_vars_length : (List Val) → Option Int) (n : Nat) : ∀ a, fnL (vars_length_x c_vars_length) true 30 Try.f30 [.ty 33] [3] (vars_length_sums c_vars_length n) a = vars_length c_vars_length n a := by
  intro a
  kernel_rfl
theorem vars_length_hT {K : CallT} (c_vars_length : (List Val) → Option Int) (h0 : Meets U (callV C K) 30 ⟨true, [.ty 33], [3], c_vars_length⟩)  : CallsOk (vars_length_x c_vars_length) (callV C K) :=
  ⟨(mall_cons h0 mall_nil), rall_nil⟩
theorem vars_length_L0_law {K : CallT} (c_vars_length : (List Val) → Option Int) (h0 : Meets U (callV C K) 30 ⟨true, [.ty 33], [3], c_vars_length⟩)  (n : Nat) (b0 : Base) (bn0 : b0.nr ≤ 0) : Law (vars_length_x c_vars_length) b0 (callV C K) (ann 30) n (loopOf (bodyOf Try.f30) 0) (runL U vars_length_L0_D (vars_length_L0_g c_vars_length n) n) :=
  law_of (x := vars_length_x c_vars_length) (id := 0) ok (vars_length_hT c_vars_length h0) (sums := vars_length_sums c_vars_length n) (laws_none (show loopsOf 0 (loopOf (bodyOf Try.f30) 0) = [] by kernel_rfl)) vars_length_L0_D bn0 (vars_length_L0_g c_vars_length n) (vars_length_L0_e c_vars_length n)
theorem vars_length_meets {K : CallT} (hK : ∀ args h, K 30 args h = none) (c_vars_length : (List Val) → Option Int) (h0 : Meets U (callV C K) 30 ⟨true, [.ty 33], [3], c_vars_length⟩)  (t : PX X (AK.tys [.ty 33]) → Option (PX X [3])) (h : ∀ a r, t a = some r → ∃ n, vars_length c_vars_length n a = some r) : Meets U (callV C K) 30 ⟨true, [.ty 33], [3], t⟩ := by
  refine fnL_meets (x := vars_length_x c_vars_length) (ak := [.ty 33]) (rts := [3]) (dir := true) ok (vars_length_hT c_vars_length h0) hK Try.func30 vars_length_ok fun a r hr => ?_
  obtain ⟨n, hn⟩ := h a r hr
  exact ⟨n, vars_length_sums c_vars_length n, (laws_ids (ids := [0]) (by kernel_rfl) (by decide) (fun i hi => by
    simp only [List.mem_cons, List.not_mem_nil, or_false] at hi
    rcases hi with rfl
    · exact laws_one (c2 := loopOf (bodyOf Try.f30) 0) (by kernel_rfl) (by kernel_rfl) (vars_length_L0_law c_vars_length h0 _ _ (Nat.le_refl _))
    )), (vars_length_e c_vars_length n a).trans hn⟩
-- 32 vitrine/vitrineref30.Long
def ref30_Long_L0 (c_ref30_Long : (List Val) → Option Int) {R : Type} (n : Nat) (a0 : List Val) (a2 : Int) (kx0 : Int → Option R)  (y3 : Int) (y4 : Int) (k : Int → Int → Option R) : Option R :=
  cond (decide (y4 < (a0.length : Int)))
  (Option.bind (getI a0 y4) fun x2 =>
  Option.bind (getI a0 y4) fun x3 =>
  Option.bind (getI a0 y4) fun x4 =>
  Option.bind (c_ref30_Long x4.l) fun r5 =>
  k (IntKind.i64.wrap (y3 + (IntKind.i64.wrap ((IntKind.i64.wrap ((IntKind.i64.wrap ((1 : Int) + (x2.tok.t.length : Int))) + (x3.tok.u.length : Int))) + r5)))) (IntKind.i64.wrap (y4 + (1 : Int))))
  (kx0 y3)
def ref30_Long (c_ref30_Long : (List Val) → Option Int) (n : Nat) (p0 : List Val)  : Option Int :=
  loop2 (ref30_Long_L0 c_ref30_Long n p0 (0 : Int) (fun z1 =>
  some z1)) n (0 : Int) (0 : Int)
abbrev ref30_Long_T (c_ref30_Long : (List Val) → Option Int) : List (Nat × TCall X) := [(32, ⟨true, [.ty 33], [3], c_ref30_Long⟩)]
noncomputable abbrev ref30_Long_x (c_ref30_Long : (List Val) → Option Int) : Cx := ⟨C, U, ref30_Long_T c_ref30_Long, [], fun _ => []⟩
theorem ref30_Long_ok : okF (C.ann 32) Try.f32 1 = true := by kernel_rfl
abbrev ref30_Long_L0_D : LD := ⟨0, [.val 0 33, .val 2 2], [.val 3 2, .val 4 2], [(0, [.val 3 2])], []⟩
abbrev ref30_Long_L0_g (c_ref30_Long : (List Val) → Option Int) (n : Nat) : LG U (PX X [3]) ref30_Long_L0_D := fun c kx kr y k => ref30_Long_L0 c_ref30_Long n c.1 c.2.1 (fun z0 => kx 0 (z0, ())) y.1 y.2.1 (fun z0 z1 => k (z0, z1, ()))
noncomputable abbrev ref30_Long_sums (c_ref30_Long : (List Val) → Option Int) (n : Nat) : Sums (ref30_Long_x c_ref30_Long) (PX X [3]) := [(0, runL U ref30_Long_L0_D (ref30_Long_L0_g c_ref30_Long n) n)]
theorem ref30_Long_L0_e (c_ref30_Long : (List Val) → Option Int) (n : Nat) : ∀ c kx kr y k1, evL (ref30_Long_x c_ref30_Long) (ann 32) (ref30_Long_sums c_ref30_Long n) 0 (loopOf (bodyOf Try.f32) 0) (kontL U ref30_Long_L0_D kx kr k1) (encS U ref30_Long_L0_D.cap ref30_Long_L0_D.din c y) = ref30_Long_L0_g c_ref30_Long n c (fun i z => kx i c z) kr y (fun y2 => k1 c y2) := by
  intro c kx kr y k1
  kernel_rfl
theorem ref30_Long_e (c_ref30_Long : (List Val) → Option Int) (n : Nat) : ∀ a, fnL (ref30_Long_x c_ref30_Long) true 32 Try.f32 [.ty 33] [3] (ref30_Long_sums c_ref30_Long n) a = ref30_Long c_ref30_Long n a := by
  intro a
  kernel_rfl
theorem ref30_Long_hT {K : CallT} (c_ref30_Long : (List Val) → Option Int) (h0 : Meets U (callV C K) 32 ⟨true, [.ty 33], [3], c_ref30_Long⟩)  : CallsOk (ref30_Long_x c_ref30_Long) (callV C K) :=
  ⟨(mall_cons h0 mall_nil), rall_nil⟩
theorem ref30_Long_L0_law {K : CallT} (c_ref30_Long : (List Val) → Option Int) (h0 : Meets U (callV C K) 32 ⟨true, [.ty 33], [3], c_ref30_Long⟩)  (n : Nat) (b0 : Base) (bn0 : b0.nr ≤ 0) : Law (ref30_Long_x c_ref30_Long) b0 (callV C K) (ann 32) n (loopOf (bodyOf Try.f32) 0) (runL U ref30_Long_L0_D (ref30_Long_L0_g c_ref30_Long n) n) :=
  law_of (x := ref30_Long_x c_ref30_Long) (id := 0) ok (ref30_Long_hT c_ref30_Long h0) (sums := ref30_Long_sums c_ref30_Long n) (laws_none (show loopsOf 0 (loopOf (bodyOf Try.f32) 0) = [] by kernel_rfl)) ref30_Long_L0_D bn0 (ref30_Long_L0_g c_ref30_Long n) (ref30_Long_L0_e c_ref30_Long n)
theorem ref30_Long_meets {K : CallT} (hK : ∀ args h, K 32 args h = none) (c_ref30_Long : (List Val) → Option Int) (h0 : Meets U (callV C K) 32 ⟨true, [.ty 33], [3], c_ref30_Long⟩)  (t : PX X (AK.tys [.ty 33]) → Option (PX X [3])) (h : ∀ a r, t a = some r → ∃ n, ref30_Long c_ref30_Long n a = some r) : Meets U (callV C K) 32 ⟨true, [.ty 33], [3], t⟩ := by
  refine fnL_meets (x := ref30_Long_x c_ref30_Long) (ak := [.ty 33]) (rts := [3]) (dir := true) ok (ref30_Long_hT c_ref30_Long h0) hK Try.func32 ref30_Long_ok fun a r hr => ?_
  obtain ⟨n, hn⟩ := h a r hr
  exact ⟨n, ref30_Long_sums c_ref30_Long n, (laws_ids (ids := [0]) (by kernel_rfl) (by decide) (fun i hi => by
    simp only [List.mem_cons, List.not_mem_nil, or_false] at hi
    rcases hi with rfl
    · exact laws_one (c2 := loopOf (bodyOf Try.f32) 0) (by kernel_rfl) (by kernel_rfl) (ref30_Long_L0_law c_ref30_Long h0 _ _ (Nat.le_refl _))
    )), (ref30_Long_e c_ref30_Long n a).trans hn⟩
-- 14 vitrine/vars.Length
def vars_Length (c_nest_Check : (List Val) → Option Int) (c_vars_length : (List Val) → Option Int) (n : Nat) (p0 : List Val)  : Option (Int × Int) :=
  Option.bind (c_nest_Check p0) fun r1 =>
  cond (r1 != (0 : Int))
  (some ((0 : Int), r1))
  (Option.bind (c_vars_length p0) fun r2 =>
  some (r2, (0 : Int)))
abbrev vars_Length_T (c_nest_Check : (List Val) → Option Int) (c_vars_length : (List Val) → Option Int) : List (Nat × TCall X) := [(24, ⟨true, [.ty 33], [25], c_nest_Check⟩), (30, ⟨true, [.ty 33], [3], c_vars_length⟩)]
noncomputable abbrev vars_Length_x (c_nest_Check : (List Val) → Option Int) (c_vars_length : (List Val) → Option Int) : Cx := ⟨C, U, vars_Length_T c_nest_Check c_vars_length, [], fun _ => []⟩
theorem vars_Length_ok : okF (C.ann 14) Try.f14 1 = true := by kernel_rfl
noncomputable abbrev vars_Length_sums (c_nest_Check : (List Val) → Option Int) (c_vars_length : (List Val) → Option Int) (n : Nat) : Sums (vars_Length_x c_nest_Check c_vars_length) (PX X [3, 25]) := []
theorem vars_Length_e (c_nest_Check : (List Val) → Option Int) (c_vars_length : (List Val) → Option Int) (n : Nat) : ∀ a, fnL (vars_Length_x c_nest_Check c_vars_length) true 14 Try.f14 [.ty 33] [3, 25] (vars_Length_sums c_nest_Check c_vars_length n) a = vars_Length c_nest_Check c_vars_length n a := by
  intro a
  kernel_rfl
theorem vars_Length_hT {K : CallT} (c_nest_Check : (List Val) → Option Int) (c_vars_length : (List Val) → Option Int) (h0 : Meets U (callV C K) 24 ⟨true, [.ty 33], [25], c_nest_Check⟩) (h1 : Meets U (callV C K) 30 ⟨true, [.ty 33], [3], c_vars_length⟩)  : CallsOk (vars_Length_x c_nest_Check c_vars_length) (callV C K) :=
  ⟨(mall_cons h0 (mall_cons h1 mall_nil)), rall_nil⟩
theorem vars_Length_meets {K : CallT} (hK : ∀ args h, K 14 args h = none) (c_nest_Check : (List Val) → Option Int) (c_vars_length : (List Val) → Option Int) (h0 : Meets U (callV C K) 24 ⟨true, [.ty 33], [25], c_nest_Check⟩) (h1 : Meets U (callV C K) 30 ⟨true, [.ty 33], [3], c_vars_length⟩)  (t : PX X (AK.tys [.ty 33]) → Option (PX X [3, 25])) (h : ∀ a r, t a = some r → ∃ n, vars_Length c_nest_Check c_vars_length n a = some r) : Meets U (callV C K) 14 ⟨true, [.ty 33], [3, 25], t⟩ := by
  refine fnL_meets (x := vars_Length_x c_nest_Check c_vars_length) (ak := [.ty 33]) (rts := [3, 25]) (dir := true) ok (vars_Length_hT c_nest_Check c_vars_length h0 h1) hK Try.func14 vars_Length_ok fun a r hr => ?_
  obtain ⟨n, hn⟩ := h a r hr
  exact ⟨n, vars_Length_sums c_nest_Check c_vars_length n, (laws_none (show loopsOf 0 (bodyOf Try.f14) = [] by kernel_rfl)), (vars_Length_e c_nest_Check c_vars_length n a).trans hn⟩
-- 15 vitrine/vitrineref30.Length
def ref30_Length (c_ref04_Check : (List Val) → Option Int) (c_ref30_Long : (List Val) → Option Int) (n : Nat) (p0 : List Val)  : Option (Int × Int) :=
  Option.bind (c_ref04_Check p0) fun r1 =>
  cond (r1 != (0 : Int))
  (some ((0 : Int), r1))
  (Option.bind (c_ref30_Long p0) fun r2 =>
  some (r2, (0 : Int)))
abbrev ref30_Length_T (c_ref04_Check : (List Val) → Option Int) (c_ref30_Long : (List Val) → Option Int) : List (Nat × TCall X) := [(27, ⟨true, [.ty 33], [3], c_ref04_Check⟩), (32, ⟨true, [.ty 33], [3], c_ref30_Long⟩)]
noncomputable abbrev ref30_Length_x (c_ref04_Check : (List Val) → Option Int) (c_ref30_Long : (List Val) → Option Int) : Cx := ⟨C, U, ref30_Length_T c_ref04_Check c_ref30_Long, [], fun _ => []⟩
theorem ref30_Length_ok : okF (C.ann 15) Try.f15 1 = true := by kernel_rfl
noncomputable abbrev ref30_Length_sums (c_ref04_Check : (List Val) → Option Int) (c_ref30_Long : (List Val) → Option Int) (n : Nat) : Sums (ref30_Length_x c_ref04_Check c_ref30_Long) (PX X [3, 3]) := []
theorem ref30_Length_e (c_ref04_Check : (List Val) → Option Int) (c_ref30_Long : (List Val) → Option Int) (n : Nat) : ∀ a, fnL (ref30_Length_x c_ref04_Check c_ref30_Long) true 15 Try.f15 [.ty 33] [3, 3] (ref30_Length_sums c_ref04_Check c_ref30_Long n) a = ref30_Length c_ref04_Check c_ref30_Long n a := by
  intro a
  kernel_rfl
theorem ref30_Length_hT {K : CallT} (c_ref04_Check : (List Val) → Option Int) (c_ref30_Long : (List Val) → Option Int) (h0 : Meets U (callV C K) 27 ⟨true, [.ty 33], [3], c_ref04_Check⟩) (h1 : Meets U (callV C K) 32 ⟨true, [.ty 33], [3], c_ref30_Long⟩)  : CallsOk (ref30_Length_x c_ref04_Check c_ref30_Long) (callV C K) :=
  ⟨(mall_cons h0 (mall_cons h1 mall_nil)), rall_nil⟩
theorem ref30_Length_meets {K : CallT} (hK : ∀ args h, K 15 args h = none) (c_ref04_Check : (List Val) → Option Int) (c_ref30_Long : (List Val) → Option Int) (h0 : Meets U (callV C K) 27 ⟨true, [.ty 33], [3], c_ref04_Check⟩) (h1 : Meets U (callV C K) 32 ⟨true, [.ty 33], [3], c_ref30_Long⟩)  (t : PX X (AK.tys [.ty 33]) → Option (PX X [3, 3])) (h : ∀ a r, t a = some r → ∃ n, ref30_Length c_ref04_Check c_ref30_Long n a = some r) : Meets U (callV C K) 15 ⟨true, [.ty 33], [3, 3], t⟩ := by
  refine fnL_meets (x := ref30_Length_x c_ref04_Check c_ref30_Long) (ak := [.ty 33]) (rts := [3, 3]) (dir := true) ok (ref30_Length_hT c_ref04_Check c_ref30_Long h0 h1) hK Try.func15 ref30_Length_ok fun a r hr => ?_
  obtain ⟨n, hn⟩ := h a r hr
  exact ⟨n, ref30_Length_sums c_ref04_Check c_ref30_Long n, (laws_none (show loopsOf 0 (bodyOf Try.f15) = [] by kernel_rfl)), (ref30_Length_e c_ref04_Check c_ref30_Long n a).trans hn⟩
-- 55 vitrine/vars.isVar
def vars_isVar  (n : Nat) (p0 : Val)  : Option Bool :=
  Option.bind (some (cond (p0.tok.k == (2 : Int)) ((p0.tok.t.length : Int) == (3 : Int)) false)) fun m1 =>
  Option.bind (cond m1 (getI p0.tok.t (0 : Int)) (some 0)) fun b2 =>
  Option.bind (some (cond m1 ((IntKind.u8.wrap (BitVec.ofInt (IntKind.u8).bits (b2.toNat : Int) ||| BitVec.ofInt (IntKind.u8).bits (32 : Int)).toNat) == (118 : Int)) false)) fun m3 =>
  Option.bind (cond m3 (getI p0.tok.t (1 : Int)) (some 0)) fun b4 =>
  Option.bind (some (cond m3 ((IntKind.u8.wrap (BitVec.ofInt (IntKind.u8).bits (b4.toNat : Int) ||| BitVec.ofInt (IntKind.u8).bits (32 : Int)).toNat) == (97 : Int)) false)) fun m5 =>
  Option.bind (cond m5 (getI p0.tok.t (2 : Int)) (some 0)) fun b6 =>
  Option.bind (some (cond m5 ((IntKind.u8.wrap (BitVec.ofInt (IntKind.u8).bits (b6.toNat : Int) ||| BitVec.ofInt (IntKind.u8).bits (32 : Int)).toNat) == (114 : Int)) false)) fun m7 =>
  some m7
abbrev vars_isVar_T  : List (Nat × TCall X) := []
noncomputable abbrev vars_isVar_x  : Cx := ⟨C, U, vars_isVar_T , [], fun _ => []⟩
theorem vars_isVar_ok : okF (C.ann 55) Try.f55 1 = true := by kernel_rfl
noncomputable abbrev vars_isVar_sums  (n : Nat) : Sums (vars_isVar_x ) (PX X [4]) := []
theorem vars_isVar_e  (n : Nat) : ∀ a, fnL (vars_isVar_x ) true 55 Try.f55 [.ty 60] [4] (vars_isVar_sums  n) a = vars_isVar  n a := by
  intro a
  kernel_rfl
theorem vars_isVar_hT {K : CallT}    : CallsOk (vars_isVar_x ) (callV C K) :=
  ⟨mall_nil, rall_nil⟩
theorem vars_isVar_meets {K : CallT} (hK : ∀ args h, K 55 args h = none)    (t : PX X (AK.tys [.ty 60]) → Option (PX X [4])) (h : ∀ a r, t a = some r → ∃ n, vars_isVar  n a = some r) : Meets U (callV C K) 55 ⟨true, [.ty 60], [4], t⟩ := by
  refine fnL_meets (x := vars_isVar_x ) (ak := [.ty 60]) (rts := [4]) (dir := true) ok (vars_isVar_hT  ) hK Try.func55 vars_isVar_ok fun a r hr => ?_
  obtain ⟨n, hn⟩ := h a r hr
  exact ⟨n, vars_isVar_sums  n, (laws_none (show loopsOf 0 (bodyOf Try.f55) = [] by kernel_rfl)), (vars_isVar_e  n a).trans hn⟩
-- 60 vitrine/vitrineref30.Reference
def ref30_Reference (c_ref26_Small : (List UInt8) → Option (List UInt8)) (n : Nat) (p0 : Val)  : Option Bool :=
  Option.bind (cond (p0.tok.k == (2 : Int)) (c_ref26_Small p0.tok.t) (some [])) fun r1 =>
  Option.bind (some (cond (p0.tok.k == (2 : Int)) (r1 == [118, 97, 114]) false)) fun m2 =>
  some m2
abbrev ref30_Reference_T (c_ref26_Small : (List UInt8) → Option (List UInt8)) : List (Nat × TCall X) := [(53, ⟨true, [.ty 9], [9], c_ref26_Small⟩)]
noncomputable abbrev ref30_Reference_x (c_ref26_Small : (List UInt8) → Option (List UInt8)) : Cx := ⟨C, U, ref30_Reference_T c_ref26_Small, [], fun _ => []⟩
theorem ref30_Reference_ok : okF (C.ann 60) Try.f60 1 = true := by kernel_rfl
noncomputable abbrev ref30_Reference_sums (c_ref26_Small : (List UInt8) → Option (List UInt8)) (n : Nat) : Sums (ref30_Reference_x c_ref26_Small) (PX X [4]) := []
theorem ref30_Reference_e (c_ref26_Small : (List UInt8) → Option (List UInt8)) (n : Nat) : ∀ a, fnL (ref30_Reference_x c_ref26_Small) true 60 Try.f60 [.ty 60] [4] (ref30_Reference_sums c_ref26_Small n) a = ref30_Reference c_ref26_Small n a := by
  intro a
  kernel_rfl
theorem ref30_Reference_hT {K : CallT} (c_ref26_Small : (List UInt8) → Option (List UInt8)) (h0 : Meets U (callV C K) 53 ⟨true, [.ty 9], [9], c_ref26_Small⟩)  : CallsOk (ref30_Reference_x c_ref26_Small) (callV C K) :=
  ⟨(mall_cons h0 mall_nil), rall_nil⟩
theorem ref30_Reference_meets {K : CallT} (hK : ∀ args h, K 60 args h = none) (c_ref26_Small : (List UInt8) → Option (List UInt8)) (h0 : Meets U (callV C K) 53 ⟨true, [.ty 9], [9], c_ref26_Small⟩)  (t : PX X (AK.tys [.ty 60]) → Option (PX X [4])) (h : ∀ a r, t a = some r → ∃ n, ref30_Reference c_ref26_Small n a = some r) : Meets U (callV C K) 60 ⟨true, [.ty 60], [4], t⟩ := by
  refine fnL_meets (x := ref30_Reference_x c_ref26_Small) (ak := [.ty 60]) (rts := [4]) (dir := true) ok (ref30_Reference_hT c_ref26_Small h0) hK Try.func60 ref30_Reference_ok fun a r hr => ?_
  obtain ⟨n, hn⟩ := h a r hr
  exact ⟨n, ref30_Reference_sums c_ref26_Small n, (laws_none (show loopsOf 0 (bodyOf Try.f60) = [] by kernel_rfl)), (ref30_Reference_e c_ref26_Small n a).trans hn⟩
-- 71 vitrine/vars.spaces
def vars_spaces_L0  {R : Type} (n : Nat) (a2 : List Val) (kx0 : List Val → Option R)  (y0 : List Val) (k : List Val → Option R) : Option R :=
  Option.bind (cond (decide ((y0.length : Int) > (0 : Int))) (getI y0 (0 : Int)) (some zVal)) fun x2 =>
  Option.bind (some (cond (decide ((y0.length : Int) > (0 : Int))) (x2.tok.k == (13 : Int)) false)) fun m3 =>
  cond m3
  (Option.bind (subL y0 (1 : Int) (y0.length : Int)) fun s4 =>
  k s4)
  (kx0 y0)
def vars_spaces  (n : Nat) (p0 : List Val)  : Option (List Val) :=
  loop1 (vars_spaces_L0  n [] (fun z1 =>
  some z1)) n p0
abbrev vars_spaces_T  : List (Nat × TCall X) := []
noncomputable abbrev vars_spaces_x  : Cx := ⟨C, U, vars_spaces_T , [], fun _ => []⟩
theorem vars_spaces_ok : okF (C.ann 71) Try.f71 1 = true := by kernel_rfl
abbrev vars_spaces_L0_D : LD := ⟨0, [.val 2 33], [.val 0 33], [(0, [.val 0 33])], []⟩
abbrev vars_spaces_L0_g  (n : Nat) : LG U (PX X [33]) vars_spaces_L0_D := fun c kx kr y k => vars_spaces_L0  n c.1 (fun z0 => kx 0 (z0, ())) y.1 (fun z0 => k (z0, ()))
noncomputable abbrev vars_spaces_sums  (n : Nat) : Sums (vars_spaces_x ) (PX X [33]) := [(0, runL U vars_spaces_L0_D (vars_spaces_L0_g  n) n)]
theorem vars_spaces_L0_e  (n : Nat) : ∀ c kx kr y k1, evL (vars_spaces_x ) (ann 71) (vars_spaces_sums  n) 0 (loopOf (bodyOf Try.f71) 0) (kontL U vars_spaces_L0_D kx kr k1) (encS U vars_spaces_L0_D.cap vars_spaces_L0_D.din c y) = vars_spaces_L0_g  n c (fun i z => kx i c z) kr y (fun y2 => k1 c y2) := by
  intro c kx kr y k1
  kernel_rfl
theorem vars_spaces_e  (n : Nat) : ∀ a, fnL (vars_spaces_x ) true 71 Try.f71 [.ty 33] [33] (vars_spaces_sums  n) a = vars_spaces  n a := by
  intro a
  kernel_rfl
theorem vars_spaces_hT {K : CallT}    : CallsOk (vars_spaces_x ) (callV C K) :=
  ⟨mall_nil, rall_nil⟩
theorem vars_spaces_L0_law {K : CallT}    (n : Nat) (b0 : Base) (bn0 : b0.nr ≤ 0) : Law (vars_spaces_x ) b0 (callV C K) (ann 71) n (loopOf (bodyOf Try.f71) 0) (runL U vars_spaces_L0_D (vars_spaces_L0_g  n) n) :=
  law_of (x := vars_spaces_x ) (id := 0) ok (vars_spaces_hT  ) (sums := vars_spaces_sums  n) (laws_none (show loopsOf 0 (loopOf (bodyOf Try.f71) 0) = [] by kernel_rfl)) vars_spaces_L0_D bn0 (vars_spaces_L0_g  n) (vars_spaces_L0_e  n)
theorem vars_spaces_meets {K : CallT} (hK : ∀ args h, K 71 args h = none)    (t : PX X (AK.tys [.ty 33]) → Option (PX X [33])) (h : ∀ a r, t a = some r → ∃ n, vars_spaces  n a = some r) : Meets U (callV C K) 71 ⟨true, [.ty 33], [33], t⟩ := by
  refine fnL_meets (x := vars_spaces_x ) (ak := [.ty 33]) (rts := [33]) (dir := true) ok (vars_spaces_hT  ) hK Try.func71 vars_spaces_ok fun a r hr => ?_
  obtain ⟨n, hn⟩ := h a r hr
  exact ⟨n, vars_spaces_sums  n, (laws_ids (ids := [0]) (by kernel_rfl) (by decide) (fun i hi => by
    simp only [List.mem_cons, List.not_mem_nil, or_false] at hi
    rcases hi with rfl
    · exact laws_one (c2 := loopOf (bodyOf Try.f71) 0) (by kernel_rfl) (by kernel_rfl) (vars_spaces_L0_law   _ _ (Nat.le_refl _))
    )), (vars_spaces_e  n a).trans hn⟩
-- 72 vitrine/vars.trim
def vars_trim_L0 (c_vars_spaces : (List Val) → Option (List Val)) {R : Type} (n : Nat) (a2 : List Val) (kx0 : List Val → Option R)  (y0 : List Val) (k : List Val → Option R) : Option R :=
  Option.bind (cond (decide ((y0.length : Int) > (0 : Int))) (getI y0 (IntKind.i64.wrap ((y0.length : Int) - (1 : Int)))) (some zVal)) fun x3 =>
  Option.bind (some (cond (decide ((y0.length : Int) > (0 : Int))) (x3.tok.k == (13 : Int)) false)) fun m4 =>
  cond m4
  (Option.bind (subL y0 (0 : Int) (IntKind.i64.wrap ((y0.length : Int) - (1 : Int)))) fun s5 =>
  k s5)
  (kx0 y0)
def vars_trim (c_vars_spaces : (List Val) → Option (List Val)) (n : Nat) (p0 : List Val)  : Option (List Val) :=
  Option.bind (c_vars_spaces p0) fun r1 =>
  loop1 (vars_trim_L0 c_vars_spaces n [] (fun z2 =>
  some z2)) n r1
abbrev vars_trim_T (c_vars_spaces : (List Val) → Option (List Val)) : List (Nat × TCall X) := [(71, ⟨true, [.ty 33], [33], c_vars_spaces⟩)]
noncomputable abbrev vars_trim_x (c_vars_spaces : (List Val) → Option (List Val)) : Cx := ⟨C, U, vars_trim_T c_vars_spaces, [], fun _ => []⟩
theorem vars_trim_ok : okF (C.ann 72) Try.f72 1 = true := by kernel_rfl
abbrev vars_trim_L0_D : LD := ⟨0, [.val 2 33], [.val 0 33], [(0, [.val 0 33])], []⟩
abbrev vars_trim_L0_g (c_vars_spaces : (List Val) → Option (List Val)) (n : Nat) : LG U (PX X [33]) vars_trim_L0_D := fun c kx kr y k => vars_trim_L0 c_vars_spaces n c.1 (fun z0 => kx 0 (z0, ())) y.1 (fun z0 => k (z0, ()))
noncomputable abbrev vars_trim_sums (c_vars_spaces : (List Val) → Option (List Val)) (n : Nat) : Sums (vars_trim_x c_vars_spaces) (PX X [33]) := [(0, runL U vars_trim_L0_D (vars_trim_L0_g c_vars_spaces n) n)]
theorem vars_trim_L0_e (c_vars_spaces : (List Val) → Option (List Val)) (n : Nat) : ∀ c kx kr y k1, evL (vars_trim_x c_vars_spaces) (ann 72) (vars_trim_sums c_vars_spaces n) 0 (loopOf (bodyOf Try.f72) 0) (kontL U vars_trim_L0_D kx kr k1) (encS U vars_trim_L0_D.cap vars_trim_L0_D.din c y) = vars_trim_L0_g c_vars_spaces n c (fun i z => kx i c z) kr y (fun y2 => k1 c y2) := by
  intro c kx kr y k1
  kernel_rfl
theorem vars_trim_e (c_vars_spaces : (List Val) → Option (List Val)) (n : Nat) : ∀ a, fnL (vars_trim_x c_vars_spaces) true 72 Try.f72 [.ty 33] [33] (vars_trim_sums c_vars_spaces n) a = vars_trim c_vars_spaces n a := by
  intro a
  kernel_rfl
theorem vars_trim_hT {K : CallT} (c_vars_spaces : (List Val) → Option (List Val)) (h0 : Meets U (callV C K) 71 ⟨true, [.ty 33], [33], c_vars_spaces⟩)  : CallsOk (vars_trim_x c_vars_spaces) (callV C K) :=
  ⟨(mall_cons h0 mall_nil), rall_nil⟩
theorem vars_trim_L0_law {K : CallT} (c_vars_spaces : (List Val) → Option (List Val)) (h0 : Meets U (callV C K) 71 ⟨true, [.ty 33], [33], c_vars_spaces⟩)  (n : Nat) (b0 : Base) (bn0 : b0.nr ≤ 0) : Law (vars_trim_x c_vars_spaces) b0 (callV C K) (ann 72) n (loopOf (bodyOf Try.f72) 0) (runL U vars_trim_L0_D (vars_trim_L0_g c_vars_spaces n) n) :=
  law_of (x := vars_trim_x c_vars_spaces) (id := 0) ok (vars_trim_hT c_vars_spaces h0) (sums := vars_trim_sums c_vars_spaces n) (laws_none (show loopsOf 0 (loopOf (bodyOf Try.f72) 0) = [] by kernel_rfl)) vars_trim_L0_D bn0 (vars_trim_L0_g c_vars_spaces n) (vars_trim_L0_e c_vars_spaces n)
theorem vars_trim_meets {K : CallT} (hK : ∀ args h, K 72 args h = none) (c_vars_spaces : (List Val) → Option (List Val)) (h0 : Meets U (callV C K) 71 ⟨true, [.ty 33], [33], c_vars_spaces⟩)  (t : PX X (AK.tys [.ty 33]) → Option (PX X [33])) (h : ∀ a r, t a = some r → ∃ n, vars_trim c_vars_spaces n a = some r) : Meets U (callV C K) 72 ⟨true, [.ty 33], [33], t⟩ := by
  refine fnL_meets (x := vars_trim_x c_vars_spaces) (ak := [.ty 33]) (rts := [33]) (dir := true) ok (vars_trim_hT c_vars_spaces h0) hK Try.func72 vars_trim_ok fun a r hr => ?_
  obtain ⟨n, hn⟩ := h a r hr
  exact ⟨n, vars_trim_sums c_vars_spaces n, (laws_ids (ids := [0]) (by kernel_rfl) (by decide) (fun i hi => by
    simp only [List.mem_cons, List.not_mem_nil, or_false] at hi
    rcases hi with rfl
    · exact laws_one (c2 := loopOf (bodyOf Try.f72) 0) (by kernel_rfl) (by kernel_rfl) (vars_trim_L0_law c_vars_spaces h0 _ _ (Nat.le_refl _))
    )), (vars_trim_e c_vars_spaces n a).trans hn⟩
-- 76 vitrine/vitrineref04.Trimmed
def ref04_Trimmed_L0  {R : Type} (n : Nat) (a2 : List Val) (kx0 : List Val → Option R)  (y0 : List Val) (k : List Val → Option R) : Option R :=
  Option.bind (cond (decide ((y0.length : Int) > (0 : Int))) (getI y0 (0 : Int)) (some zVal)) fun x6 =>
  Option.bind (some (cond (decide ((y0.length : Int) > (0 : Int))) (x6.tok.k == (13 : Int)) false)) fun m7 =>
  cond m7
  (Option.bind (subL y0 (1 : Int) (y0.length : Int)) fun s8 =>
  k s8)
  (kx0 y0)
def ref04_Trimmed_L2  {R : Type} (n : Nat) (a2 : List Val) (kx2 : List Val → Option R)  (y0 : List Val) (k : List Val → Option R) : Option R :=
  Option.bind (cond (decide ((y0.length : Int) > (0 : Int))) (getI y0 (IntKind.i64.wrap ((y0.length : Int) - (1 : Int)))) (some zVal)) fun x3 =>
  Option.bind (some (cond (decide ((y0.length : Int) > (0 : Int))) (x3.tok.k == (13 : Int)) false)) fun m4 =>
  cond m4
  (Option.bind (subL y0 (0 : Int) (IntKind.i64.wrap ((y0.length : Int) - (1 : Int)))) fun s5 =>
  k s5)
  (kx2 y0)
def ref04_Trimmed  (n : Nat) (p0 : List Val)  : Option (List Val) :=
  loop1 (ref04_Trimmed_L0  n [] (fun z1 =>
  loop1 (ref04_Trimmed_L2  n [] (fun z2 =>
  some z2)) n z1)) n p0
abbrev ref04_Trimmed_T  : List (Nat × TCall X) := []
noncomputable abbrev ref04_Trimmed_x  : Cx := ⟨C, U, ref04_Trimmed_T , [], fun _ => []⟩
theorem ref04_Trimmed_ok : okF (C.ann 76) Try.f76 1 = true := by kernel_rfl
abbrev ref04_Trimmed_L0_D : LD := ⟨0, [.val 2 33], [.val 0 33], [(0, [.val 0 33])], []⟩
abbrev ref04_Trimmed_L0_g  (n : Nat) : LG U (PX X [33]) ref04_Trimmed_L0_D := fun c kx kr y k => ref04_Trimmed_L0  n c.1 (fun z0 => kx 0 (z0, ())) y.1 (fun z0 => k (z0, ()))
abbrev ref04_Trimmed_L2_D : LD := ⟨0, [.val 2 33], [.val 0 33], [(2, [.val 0 33])], []⟩
abbrev ref04_Trimmed_L2_g  (n : Nat) : LG U (PX X [33]) ref04_Trimmed_L2_D := fun c kx kr y k => ref04_Trimmed_L2  n c.1 (fun z0 => kx 2 (z0, ())) y.1 (fun z0 => k (z0, ()))
noncomputable abbrev ref04_Trimmed_sums  (n : Nat) : Sums (ref04_Trimmed_x ) (PX X [33]) := [(0, runL U ref04_Trimmed_L0_D (ref04_Trimmed_L0_g  n) n), (2, runL U ref04_Trimmed_L2_D (ref04_Trimmed_L2_g  n) n)]
theorem ref04_Trimmed_L0_e  (n : Nat) : ∀ c kx kr y k1, evL (ref04_Trimmed_x ) (ann 76) (ref04_Trimmed_sums  n) 0 (loopOf (bodyOf Try.f76) 0) (kontL U ref04_Trimmed_L0_D kx kr k1) (encS U ref04_Trimmed_L0_D.cap ref04_Trimmed_L0_D.din c y) = ref04_Trimmed_L0_g  n c (fun i z => kx i c z) kr y (fun y2 => k1 c y2) := by
  intro c kx kr y k1
  kernel_rfl
theorem ref04_Trimmed_L2_e  (n : Nat) : ∀ c kx kr y k1, evL (ref04_Trimmed_x ) (ann 76) (ref04_Trimmed_sums  n) 2 (loopOf (bodyOf Try.f76) 2) (kontL U ref04_Trimmed_L2_D kx kr k1) (encS U ref04_Trimmed_L2_D.cap ref04_Trimmed_L2_D.din c y) = ref04_Trimmed_L2_g  n c (fun i z => kx i c z) kr y (fun y2 => k1 c y2) := by
  intro c kx kr y k1
  kernel_rfl
theorem ref04_Trimmed_e  (n : Nat) : ∀ a, fnL (ref04_Trimmed_x ) true 76 Try.f76 [.ty 33] [33] (ref04_Trimmed_sums  n) a = ref04_Trimmed  n a := by
  intro a
  kernel_rfl
theorem ref04_Trimmed_hT {K : CallT}    : CallsOk (ref04_Trimmed_x ) (callV C K) :=
  ⟨mall_nil, rall_nil⟩
theorem ref04_Trimmed_L0_law {K : CallT}    (n : Nat) (b0 : Base) (bn0 : b0.nr ≤ 0) : Law (ref04_Trimmed_x ) b0 (callV C K) (ann 76) n (loopOf (bodyOf Try.f76) 0) (runL U ref04_Trimmed_L0_D (ref04_Trimmed_L0_g  n) n) :=
  law_of (x := ref04_Trimmed_x ) (id := 0) ok (ref04_Trimmed_hT  ) (sums := ref04_Trimmed_sums  n) (laws_none (show loopsOf 0 (loopOf (bodyOf Try.f76) 0) = [] by kernel_rfl)) ref04_Trimmed_L0_D bn0 (ref04_Trimmed_L0_g  n) (ref04_Trimmed_L0_e  n)
theorem ref04_Trimmed_L2_law {K : CallT}    (n : Nat) (b0 : Base) (bn0 : b0.nr ≤ 0) : Law (ref04_Trimmed_x ) b0 (callV C K) (ann 76) n (loopOf (bodyOf Try.f76) 2) (runL U ref04_Trimmed_L2_D (ref04_Trimmed_L2_g  n) n) :=
  law_of (x := ref04_Trimmed_x ) (id := 2) ok (ref04_Trimmed_hT  ) (sums := ref04_Trimmed_sums  n) (laws_none (show loopsOf 2 (loopOf (bodyOf Try.f76) 2) = [] by kernel_rfl)) ref04_Trimmed_L2_D bn0 (ref04_Trimmed_L2_g  n) (ref04_Trimmed_L2_e  n)
theorem ref04_Trimmed_meets {K : CallT} (hK : ∀ args h, K 76 args h = none)    (t : PX X (AK.tys [.ty 33]) → Option (PX X [33])) (h : ∀ a r, t a = some r → ∃ n, ref04_Trimmed  n a = some r) : Meets U (callV C K) 76 ⟨true, [.ty 33], [33], t⟩ := by
  refine fnL_meets (x := ref04_Trimmed_x ) (ak := [.ty 33]) (rts := [33]) (dir := true) ok (ref04_Trimmed_hT  ) hK Try.func76 ref04_Trimmed_ok fun a r hr => ?_
  obtain ⟨n, hn⟩ := h a r hr
  exact ⟨n, ref04_Trimmed_sums  n, (laws_ids (ids := [0, 2]) (by kernel_rfl) (by decide) (fun i hi => by
    simp only [List.mem_cons, List.not_mem_nil, or_false] at hi
    rcases hi with rfl | rfl
    · exact laws_one (c2 := loopOf (bodyOf Try.f76) 0) (by kernel_rfl) (by kernel_rfl) (ref04_Trimmed_L0_law   _ _ (Nat.le_refl _))
    · exact laws_one (c2 := loopOf (bodyOf Try.f76) 2) (by kernel_rfl) (by kernel_rfl) (ref04_Trimmed_L2_law   _ _ (Nat.le_refl _))
    )), (ref04_Trimmed_e  n a).trans hn⟩
-- 56 vitrine/vars.parts
def vars_parts (c_vars_spaces : (List Val) → Option (List Val)) (c_props_Custom : (List UInt8) → Option Bool) (c_vars_trim : (List Val) → Option (List Val)) (n : Nat) (p0 : Val)  : Option ((List UInt8) × (List Val) × Bool) :=
  Option.bind (c_vars_spaces p0.l) fun r1 =>
  Option.bind (cond (!((r1.length : Int) == (0 : Int))) (getI r1 (0 : Int)) (some zVal)) fun x2 =>
  Option.bind (some (cond ((r1.length : Int) == (0 : Int)) true (x2.tok.k != (1 : Int)))) fun m3 =>
  Option.bind (cond (!m3) (getI r1 (0 : Int)) (some zVal)) fun x4 =>
  Option.bind (cond (!m3) (c_props_Custom x4.tok.t) (some false)) fun r5 =>
  Option.bind (some (cond m3 true (!r5))) fun m6 =>
  cond m6
  (some ([], [], false))
  (Option.bind (getI r1 (0 : Int)) fun x7 =>
  Option.bind (subL r1 (1 : Int) (r1.length : Int)) fun s8 =>
  Option.bind (c_vars_spaces s8) fun r9 =>
  cond ((r9.length : Int) == (0 : Int))
  (some (x7.tok.t, [], false))
  (Option.bind (getI r9 (0 : Int)) fun x10 =>
  cond (x10.tok.k == (18 : Int))
  (Option.bind (subL r9 (1 : Int) (r9.length : Int)) fun s11 =>
  Option.bind (c_vars_trim s11) fun r12 =>
  some (x7.tok.t, r12, true))
  (some ([], [], false))))
abbrev vars_parts_T (c_vars_spaces : (List Val) → Option (List Val)) (c_props_Custom : (List UInt8) → Option Bool) (c_vars_trim : (List Val) → Option (List Val)) : List (Nat × TCall X) := [(71, ⟨true, [.ty 33], [33], c_vars_spaces⟩), (42, ⟨true, [.ty 9], [4], c_props_Custom⟩), (72, ⟨true, [.ty 33], [33], c_vars_trim⟩)]
noncomputable abbrev vars_parts_x (c_vars_spaces : (List Val) → Option (List Val)) (c_props_Custom : (List UInt8) → Option Bool) (c_vars_trim : (List Val) → Option (List Val)) : Cx := ⟨C, U, vars_parts_T c_vars_spaces c_props_Custom c_vars_trim, [], fun _ => []⟩
theorem vars_parts_ok : okF (C.ann 56) Try.f56 1 = true := by kernel_rfl
noncomputable abbrev vars_parts_sums (c_vars_spaces : (List Val) → Option (List Val)) (c_props_Custom : (List UInt8) → Option Bool) (c_vars_trim : (List Val) → Option (List Val)) (n : Nat) : Sums (vars_parts_x c_vars_spaces c_props_Custom c_vars_trim) (PX X [9, 33, 4]) := []
theorem vars_parts_e (c_vars_spaces : (List Val) → Option (List Val)) (c_props_Custom : (List UInt8) → Option Bool) (c_vars_trim : (List Val) → Option (List Val)) (n : Nat) : ∀ a, fnL (vars_parts_x c_vars_spaces c_props_Custom c_vars_trim) true 56 Try.f56 [.ty 60] [9, 33, 4] (vars_parts_sums c_vars_spaces c_props_Custom c_vars_trim n) a = vars_parts c_vars_spaces c_props_Custom c_vars_trim n a := by
  intro a
  kernel_rfl
theorem vars_parts_hT {K : CallT} (c_vars_spaces : (List Val) → Option (List Val)) (c_props_Custom : (List UInt8) → Option Bool) (c_vars_trim : (List Val) → Option (List Val)) (h0 : Meets U (callV C K) 71 ⟨true, [.ty 33], [33], c_vars_spaces⟩) (h1 : Meets U (callV C K) 42 ⟨true, [.ty 9], [4], c_props_Custom⟩) (h2 : Meets U (callV C K) 72 ⟨true, [.ty 33], [33], c_vars_trim⟩)  : CallsOk (vars_parts_x c_vars_spaces c_props_Custom c_vars_trim) (callV C K) :=
  ⟨(mall_cons h0 (mall_cons h1 (mall_cons h2 mall_nil))), rall_nil⟩
theorem vars_parts_meets {K : CallT} (hK : ∀ args h, K 56 args h = none) (c_vars_spaces : (List Val) → Option (List Val)) (c_props_Custom : (List UInt8) → Option Bool) (c_vars_trim : (List Val) → Option (List Val)) (h0 : Meets U (callV C K) 71 ⟨true, [.ty 33], [33], c_vars_spaces⟩) (h1 : Meets U (callV C K) 42 ⟨true, [.ty 9], [4], c_props_Custom⟩) (h2 : Meets U (callV C K) 72 ⟨true, [.ty 33], [33], c_vars_trim⟩)  (t : PX X (AK.tys [.ty 60]) → Option (PX X [9, 33, 4])) (h : ∀ a r, t a = some r → ∃ n, vars_parts c_vars_spaces c_props_Custom c_vars_trim n a = some r) : Meets U (callV C K) 56 ⟨true, [.ty 60], [9, 33, 4], t⟩ := by
  refine fnL_meets (x := vars_parts_x c_vars_spaces c_props_Custom c_vars_trim) (ak := [.ty 60]) (rts := [9, 33, 4]) (dir := true) ok (vars_parts_hT c_vars_spaces c_props_Custom c_vars_trim h0 h1 h2) hK Try.func56 vars_parts_ok fun a r hr => ?_
  obtain ⟨n, hn⟩ := h a r hr
  exact ⟨n, vars_parts_sums c_vars_spaces c_props_Custom c_vars_trim n, (laws_none (show loopsOf 0 (bodyOf Try.f56) = [] by kernel_rfl)), (vars_parts_e c_vars_spaces c_props_Custom c_vars_trim n a).trans hn⟩
-- 61 vitrine/vitrineref30.Named
def ref30_Named_L0 (c_ref25_Custom : (List UInt8) → Option Bool) (c_ref04_Trimmed : (List Val) → Option (List Val)) {R : Type} (n : Nat) (a2 : List UInt8) (a3 : List Val) (a4 : Bool) (a5 : List Val) (kx0 : Int → Option R)  (y6 : Int) (k : Int → Option R) : Option R :=
  Option.bind (cond (decide (y6 < (a5.length : Int))) (getI a5 y6) (some zVal)) fun x14 =>
  Option.bind (some (cond (decide (y6 < (a5.length : Int))) (x14.tok.k == (13 : Int)) false)) fun m15 =>
  cond m15
  (k (IntKind.i64.wrap (y6 + (1 : Int))))
  (kx0 y6)
def ref30_Named_L2 (c_ref25_Custom : (List UInt8) → Option Bool) (c_ref04_Trimmed : (List Val) → Option (List Val)) {R : Type} (n : Nat) (a2 : List UInt8) (a3 : List Val) (a4 : Bool) (a5 : List Val) (a7 : List UInt8) (kx2 : Int → Option R)  (y6 : Int) (k : Int → Option R) : Option R :=
  Option.bind (cond (decide (y6 < (a5.length : Int))) (getI a5 y6) (some zVal)) fun x12 =>
  Option.bind (some (cond (decide (y6 < (a5.length : Int))) (x12.tok.k == (13 : Int)) false)) fun m13 =>
  cond m13
  (k (IntKind.i64.wrap (y6 + (1 : Int))))
  (kx2 y6)
def ref30_Named (c_ref25_Custom : (List UInt8) → Option Bool) (c_ref04_Trimmed : (List Val) → Option (List Val)) (n : Nat) (p0 : Val)  : Option ((List UInt8) × (List Val) × Bool) :=
  loop1 (ref30_Named_L0 c_ref25_Custom c_ref04_Trimmed n [] [] false p0.l (fun z1 =>
  Option.bind (cond (!(z1 == (p0.l.length : Int))) (getI p0.l z1) (some zVal)) fun x2 =>
  Option.bind (some (cond (z1 == (p0.l.length : Int)) true (x2.tok.k != (1 : Int)))) fun m3 =>
  Option.bind (cond (!m3) (getI p0.l z1) (some zVal)) fun x4 =>
  Option.bind (cond (!m3) (c_ref25_Custom x4.tok.t) (some false)) fun r5 =>
  Option.bind (some (cond m3 true (!r5))) fun m6 =>
  cond m6
  (some ([], [], false))
  (Option.bind (getI p0.l z1) fun x7 =>
  loop1 (ref30_Named_L2 c_ref25_Custom c_ref04_Trimmed n [] [] false p0.l x7.tok.t (fun z8 =>
  cond (z8 == (p0.l.length : Int))
  (some (x7.tok.t, [], false))
  (Option.bind (getI p0.l z8) fun x9 =>
  cond (x9.tok.k != (18 : Int))
  (some ([], [], false))
  (Option.bind (subL p0.l (IntKind.i64.wrap (z8 + (1 : Int))) (p0.l.length : Int)) fun s10 =>
  Option.bind (c_ref04_Trimmed s10) fun r11 =>
  some (x7.tok.t, r11, true))))) n (IntKind.i64.wrap (z1 + (1 : Int)))))) n (0 : Int)
abbrev ref30_Named_T (c_ref25_Custom : (List UInt8) → Option Bool) (c_ref04_Trimmed : (List Val) → Option (List Val)) : List (Nat × TCall X) := [(45, ⟨true, [.ty 9], [4], c_ref25_Custom⟩), (76, ⟨true, [.ty 33], [33], c_ref04_Trimmed⟩)]
noncomputable abbrev ref30_Named_x (c_ref25_Custom : (List UInt8) → Option Bool) (c_ref04_Trimmed : (List Val) → Option (List Val)) : Cx := ⟨C, U, ref30_Named_T c_ref25_Custom c_ref04_Trimmed, [], fun _ => []⟩
theorem ref30_Named_ok : okF (C.ann 61) Try.f61 1 = true := by kernel_rfl
abbrev ref30_Named_L0_D : LD := ⟨0, [.val 2 9, .val 3 33, .val 4 4, .val 5 33], [.val 6 2], [(0, [.val 6 2])], []⟩
abbrev ref30_Named_L0_g (c_ref25_Custom : (List UInt8) → Option Bool) (c_ref04_Trimmed : (List Val) → Option (List Val)) (n : Nat) : LG U (PX X [9, 33, 4]) ref30_Named_L0_D := fun c kx kr y k => ref30_Named_L0 c_ref25_Custom c_ref04_Trimmed n c.1 c.2.1 c.2.2.1 c.2.2.2.1 (fun z0 => kx 0 (z0, ())) y.1 (fun z0 => k (z0, ()))
abbrev ref30_Named_L2_D : LD := ⟨0, [.val 2 9, .val 3 33, .val 4 4, .val 5 33, .val 7 9], [.val 6 2], [(2, [.val 6 2])], []⟩
abbrev ref30_Named_L2_g (c_ref25_Custom : (List UInt8) → Option Bool) (c_ref04_Trimmed : (List Val) → Option (List Val)) (n : Nat) : LG U (PX X [9, 33, 4]) ref30_Named_L2_D := fun c kx kr y k => ref30_Named_L2 c_ref25_Custom c_ref04_Trimmed n c.1 c.2.1 c.2.2.1 c.2.2.2.1 c.2.2.2.2.1 (fun z0 => kx 2 (z0, ())) y.1 (fun z0 => k (z0, ()))
noncomputable abbrev ref30_Named_sums (c_ref25_Custom : (List UInt8) → Option Bool) (c_ref04_Trimmed : (List Val) → Option (List Val)) (n : Nat) : Sums (ref30_Named_x c_ref25_Custom c_ref04_Trimmed) (PX X [9, 33, 4]) := [(0, runL U ref30_Named_L0_D (ref30_Named_L0_g c_ref25_Custom c_ref04_Trimmed n) n), (2, runL U ref30_Named_L2_D (ref30_Named_L2_g c_ref25_Custom c_ref04_Trimmed n) n)]
theorem ref30_Named_L0_e (c_ref25_Custom : (List UInt8) → Option Bool) (c_ref04_Trimmed : (List Val) → Option (List Val)) (n : Nat) : ∀ c kx kr y k1, evL (ref30_Named_x c_ref25_Custom c_ref04_Trimmed) (ann 61) (ref30_Named_sums c_ref25_Custom c_ref04_Trimmed n) 0 (loopOf (bodyOf Try.f61) 0) (kontL U ref30_Named_L0_D kx kr k1) (encS U ref30_Named_L0_D.cap ref30_Named_L0_D.din c y) = ref30_Named_L0_g c_ref25_Custom c_ref04_Trimmed n c (fun i z => kx i c z) kr y (fun y2 => k1 c y2) := by
  intro c kx kr y k1
  kernel_rfl
theorem ref30_Named_L2_e (c_ref25_Custom : (List UInt8) → Option Bool) (c_ref04_Trimmed : (List Val) → Option (List Val)) (n : Nat) : ∀ c kx kr y k1, evL (ref30_Named_x c_ref25_Custom c_ref04_Trimmed) (ann 61) (ref30_Named_sums c_ref25_Custom c_ref04_Trimmed n) 2 (loopOf (bodyOf Try.f61) 2) (kontL U ref30_Named_L2_D kx kr k1) (encS U ref30_Named_L2_D.cap ref30_Named_L2_D.din c y) = ref30_Named_L2_g c_ref25_Custom c_ref04_Trimmed n c (fun i z => kx i c z) kr y (fun y2 => k1 c y2) := by
  intro c kx kr y k1
  kernel_rfl
theorem ref30_Named_e (c_ref25_Custom : (List UInt8) → Option Bool) (c_ref04_Trimmed : (List Val) → Option (List Val)) (n : Nat) : ∀ a, fnL (ref30_Named_x c_ref25_Custom c_ref04_Trimmed) true 61 Try.f61 [.ty 60] [9, 33, 4] (ref30_Named_sums c_ref25_Custom c_ref04_Trimmed n) a = ref30_Named c_ref25_Custom c_ref04_Trimmed n a := by
  intro a
  kernel_rfl
theorem ref30_Named_hT {K : CallT} (c_ref25_Custom : (List UInt8) → Option Bool) (c_ref04_Trimmed : (List Val) → Option (List Val)) (h0 : Meets U (callV C K) 45 ⟨true, [.ty 9], [4], c_ref25_Custom⟩) (h1 : Meets U (callV C K) 76 ⟨true, [.ty 33], [33], c_ref04_Trimmed⟩)  : CallsOk (ref30_Named_x c_ref25_Custom c_ref04_Trimmed) (callV C K) :=
  ⟨(mall_cons h0 (mall_cons h1 mall_nil)), rall_nil⟩
theorem ref30_Named_L0_law {K : CallT} (c_ref25_Custom : (List UInt8) → Option Bool) (c_ref04_Trimmed : (List Val) → Option (List Val)) (h0 : Meets U (callV C K) 45 ⟨true, [.ty 9], [4], c_ref25_Custom⟩) (h1 : Meets U (callV C K) 76 ⟨true, [.ty 33], [33], c_ref04_Trimmed⟩)  (n : Nat) (b0 : Base) (bn0 : b0.nr ≤ 0) : Law (ref30_Named_x c_ref25_Custom c_ref04_Trimmed) b0 (callV C K) (ann 61) n (loopOf (bodyOf Try.f61) 0) (runL U ref30_Named_L0_D (ref30_Named_L0_g c_ref25_Custom c_ref04_Trimmed n) n) :=
  law_of (x := ref30_Named_x c_ref25_Custom c_ref04_Trimmed) (id := 0) ok (ref30_Named_hT c_ref25_Custom c_ref04_Trimmed h0 h1) (sums := ref30_Named_sums c_ref25_Custom c_ref04_Trimmed n) (laws_none (show loopsOf 0 (loopOf (bodyOf Try.f61) 0) = [] by kernel_rfl)) ref30_Named_L0_D bn0 (ref30_Named_L0_g c_ref25_Custom c_ref04_Trimmed n) (ref30_Named_L0_e c_ref25_Custom c_ref04_Trimmed n)
theorem ref30_Named_L2_law {K : CallT} (c_ref25_Custom : (List UInt8) → Option Bool) (c_ref04_Trimmed : (List Val) → Option (List Val)) (h0 : Meets U (callV C K) 45 ⟨true, [.ty 9], [4], c_ref25_Custom⟩) (h1 : Meets U (callV C K) 76 ⟨true, [.ty 33], [33], c_ref04_Trimmed⟩)  (n : Nat) (b0 : Base) (bn0 : b0.nr ≤ 0) : Law (ref30_Named_x c_ref25_Custom c_ref04_Trimmed) b0 (callV C K) (ann 61) n (loopOf (bodyOf Try.f61) 2) (runL U ref30_Named_L2_D (ref30_Named_L2_g c_ref25_Custom c_ref04_Trimmed n) n) :=
  law_of (x := ref30_Named_x c_ref25_Custom c_ref04_Trimmed) (id := 2) ok (ref30_Named_hT c_ref25_Custom c_ref04_Trimmed h0 h1) (sums := ref30_Named_sums c_ref25_Custom c_ref04_Trimmed n) (laws_none (show loopsOf 2 (loopOf (bodyOf Try.f61) 2) = [] by kernel_rfl)) ref30_Named_L2_D bn0 (ref30_Named_L2_g c_ref25_Custom c_ref04_Trimmed n) (ref30_Named_L2_e c_ref25_Custom c_ref04_Trimmed n)
theorem ref30_Named_meets {K : CallT} (hK : ∀ args h, K 61 args h = none) (c_ref25_Custom : (List UInt8) → Option Bool) (c_ref04_Trimmed : (List Val) → Option (List Val)) (h0 : Meets U (callV C K) 45 ⟨true, [.ty 9], [4], c_ref25_Custom⟩) (h1 : Meets U (callV C K) 76 ⟨true, [.ty 33], [33], c_ref04_Trimmed⟩)  (t : PX X (AK.tys [.ty 60]) → Option (PX X [9, 33, 4])) (h : ∀ a r, t a = some r → ∃ n, ref30_Named c_ref25_Custom c_ref04_Trimmed n a = some r) : Meets U (callV C K) 61 ⟨true, [.ty 60], [9, 33, 4], t⟩ := by
  refine fnL_meets (x := ref30_Named_x c_ref25_Custom c_ref04_Trimmed) (ak := [.ty 60]) (rts := [9, 33, 4]) (dir := true) ok (ref30_Named_hT c_ref25_Custom c_ref04_Trimmed h0 h1) hK Try.func61 ref30_Named_ok fun a r hr => ?_
  obtain ⟨n, hn⟩ := h a r hr
  exact ⟨n, ref30_Named_sums c_ref25_Custom c_ref04_Trimmed n, (laws_ids (ids := [0, 2]) (by kernel_rfl) (by decide) (fun i hi => by
    simp only [List.mem_cons, List.not_mem_nil, or_false] at hi
    rcases hi with rfl | rfl
    · exact laws_one (c2 := loopOf (bodyOf Try.f61) 0) (by kernel_rfl) (by kernel_rfl) (ref30_Named_L0_law c_ref25_Custom c_ref04_Trimmed h0 h1 _ _ (Nat.le_refl _))
    · exact laws_one (c2 := loopOf (bodyOf Try.f61) 2) (by kernel_rfl) (by kernel_rfl) (ref30_Named_L2_law c_ref25_Custom c_ref04_Trimmed h0 h1 _ _ (Nat.le_refl _))
    )), (ref30_Named_e c_ref25_Custom c_ref04_Trimmed n a).trans hn⟩
end Go.Tev.S1
namespace Go.Tev.S1
open Go.Abs Go.Proofs

def sLong (l : List Val) : Option Int := if totL l ≤ B then some (totL l : Int) else none
theorem sLong_some {l : List Val} {r : Int} (h : sLong l = some r) : totL l ≤ B ∧ r = totL l := by
  unfold sLong at h
  split at h
  · rename_i h1; exact ⟨h1, (Option.some.inj h).symm⟩
  · cases h
theorem sLong_of {l : List Val} (h : totL l ≤ B) : sLong l = some (totL l : Int) := if_pos h
theorem foldl_tot (l : List Val) : ∀ b : Nat, l.foldl (fun (b : Nat) v => b + v.tot) b = b + totL l := by
  induction l with
  | nil => intro b; simp [totL]
  | cons v l ih => intro b; simp only [List.foldl_cons, ih, totL]; omega
theorem long_walk (l : List Val) (k : Nat) (h1 : totL l < k + 1) (h2 : totL l ≤ B) : ref30_Long (below totL k sLong) (l.length + 1) l = some (totL l : Int) := by
  unfold ref30_Long loop2
  have hB : B = 2 ^ 36 := rfl
  refine (loopT_list l (fun i (b : Nat) => ((b : Int), (i : Int), ())) (fun b v => .inl (b + v.tot)) (fun b => some (b : Int)) (fun i b => b = totL (l.take i)) ?_ ?_ ?_ l (l.length + 1) 0 0 rfl (Nat.zero_le _) (by simp [totL]) (Nat.lt_succ_self _)).trans ?_
  · intro i b v k' hv hlt hb
    have hmem := List.mem_of_getElem? hv
    have hs := tot_sub hmem
    have ht := tot_take hv
    have hle := tot_take_le l (i + 1)
    have hl := len_tot l
    have he := v.tot_eq
    simp only [ref30_Long_L0, getI_nat hv, Option.bind_some, below_of (show totL v.l < k by omega), sLong_of (show totL v.l ≤ B by omega)]
    have hd : decide ((i : Int) < (l.length : Int)) = true := by simp; omega
    rw [hd]
    simp only [cond_true]
    have e1 : IntKind.i64.wrap ((1 : Int) + (v.tok.t.length : Int)) = ((1 + v.tok.t.length : Nat) : Int) := by rw [wrap_id (by omega) (by omega)]; omega
    rw [e1]
    have e2 : IntKind.i64.wrap (((1 + v.tok.t.length : Nat) : Int) + (v.tok.u.length : Int)) = ((1 + v.tok.t.length + v.tok.u.length : Nat) : Int) := by rw [wrap_id (by omega) (by omega)]; omega
    rw [e2]
    have e3 : IntKind.i64.wrap (((1 + v.tok.t.length + v.tok.u.length : Nat) : Int) + (totL v.l : Int)) = (v.tot : Int) := by rw [wrap_id (by omega) (by omega)]; omega
    rw [e3]
    have e4 : IntKind.i64.wrap ((b : Int) + (v.tot : Int)) = ((b + v.tot : Nat) : Int) := by rw [wrap_id (by omega) (by omega)]; omega
    rw [e4, wrap_add1 (by omega)]
  · intro i b v b' hv hb hs
    cases hs
    rw [tot_take hv, hb]
  · intro b k' hb
    have hd : decide ((l.length : Int) < (l.length : Int)) = false := by simp
    simp only [ref30_Long_L0, hd, cond_false]
  · rw [runE_fold (fun (b : Nat) (v : Val) => b + v.tot), foldl_tot]; simp
theorem M_Long {K : CallT} (hK : ∀ args h, K 32 args h = none) : Meets U (callV C K) 32 ⟨true, [.ty 33], [3], sLong⟩ :=
  meets_rec (U := U) (ak := [.ty 33]) (rts := [3]) totL sLong fun k ih => ref30_Long_meets hK (below totL k sLong) ih (below totL (k + 1) sLong) fun a r h => by
    obtain ⟨h1, h2⟩ := below_some h
    obtain ⟨h3, rfl⟩ := sLong_some h2
    exact ⟨_, long_walk a k h1 h3⟩
end Go.Tev.S1
namespace Go.Tev.S1
open Go.Abs Go.Proofs

theorem closer_walk (k : Int) : nest_closer 0 k = some (closerK k) := by
  unfold nest_closer closerK
  by_cases h1 : k = 2
  · simp [h1]
  · by_cases h2 : k = 21
    · rw [h2]; rfl
    · by_cases h3 : k = 19
      · rw [h3]; rfl
      · by_cases h4 : k = 23
        · rw [h4]; rfl
        · have e1 : (k == 2) = false := by simpa using h1
          have e2 : (k == 21) = false := by simpa using h2
          have e3 : (k == 19) = false := by simpa using h3
          have e4 : (k == 23) = false := by simpa using h4
          simp [h1, h2, h3, h4, e1, e2, e3, e4]
theorem Closer_walk (k : Int) : ref04_Closer 0 k = some (closerK k) := by
  unfold ref04_Closer closerK
  by_cases h1 : k = 2
  · rw [h1]; rfl
  · by_cases h2 : k = 21
    · rw [h2]; rfl
    · by_cases h3 : k = 19
      · rw [h3]; rfl
      · by_cases h4 : k = 23
        · rw [h4]; rfl
        · have e1 : (k == 2) = false := by simpa using h1
          have e2 : (k == 21) = false := by simpa using h2
          have e3 : (k == 19) = false := by simpa using h3
          have e4 : (k == 23) = false := by simpa using h4
          simp [h1, h2, h3, h4, e1, e2, e3, e4]
theorem M_closer {K : CallT} (hK : ∀ args h, K 67 args h = none) : Meets U (callV C K) 67 ⟨true, [.ty 5], [5], fun k => some (closerK k)⟩ :=
  nest_closer_meets hK _ fun a r h => by cases h; exact ⟨0, closer_walk a⟩
theorem M_Closer {K : CallT} (hK : ∀ args h, K 54 args h = none) : Meets U (callV C K) 54 ⟨true, [.ty 5], [5], fun k => some (closerK k)⟩ :=
  ref04_Closer_meets hK _ fun a r h => by cases h; exact ⟨0, Closer_walk a⟩
def sLook (a : List Val × Int) : Option Fnd := if totL a.1 ≤ B then some (fndOf a.2 a.1) else none
theorem sLook_of {l : List Val} {cl : Int} (h : totL l ≤ B) : sLook (l, cl) = some (fndOf cl l) := if_pos h
/-- what was found behind some -/
def fStep (cl : Int) (b : List Val) (v : Val) : List Val := b ++ [v]
theorem look_walk (cl : Int) (l : List Val) (k : Nat) (h1 : totL l < k + 1) (h2 : totL l ≤ B) : nest_look (fun k => some (closerK k)) (below (fun a : List Val × Int => totL a.1) k sLook) (l.length + 1) l cl = some (fndOf cl l) := by
  have hB : B = 2 ^ 36 := rfl
  unfold nest_look
  refine (loop3_list l (fun (b : List Val) => ((0 : Int), (0 : Int), false)) (fun b => ((depL b : Int), (ntkL b : Int), badL cl b)) (fun b v => .inl (b ++ [v])) (fun b => some (fndOf cl b)) (fun i b => b = l.take i) ?_ ?_ ?_ [] rfl _ (Nat.lt_succ_self _)).trans ?_
  · intro i b v k' hv hlt hb
    subst hb
    have hmem := List.mem_of_getElem? hv
    have hs := tot_sub hmem
    have hle := tot_take_le l i
    have ht := tot_take hv
    have hle2 := tot_take_le l (i + 1)
    have hl := len_tot l
    have hd := depL_tot (l.take i)
    have hn := ntkL_tot (l.take i)
    have hd' := depL_tot v.l
    have hn' := ntkL_tot v.l
    simp (disch := omega) only [nest_look_L0, getI_nat hv, Option.bind_some, dlt hlt, cond_true, Bool.cond_self, below_of, sLook_of, wrap_id]
    have hi : (i : Int) + 1 = ((i + 1 : Nat) : Int) := rfl
    rw [hi]
    simp only [depL_append, ntkL_append, badL_append, depL, ntkL, badL, Val.dep_eq v, Val.ntk_eq v, Val.bad_eq cl v, fndOf]
    have hp : decide ((v.l.length : Int) > 0) = decide (0 < v.l.length) := by simp
    rw [hp]
    by_cases hc : closerK v.tok.k = 0
    · simp only [hc, beq_self_eq_true, cond_true, if_true]
      have hx : (((max (depL (l.take i)) (max 0 0) : Nat)) : Int) = (depL (l.take i) : Int) := by omega
      have hy : (((ntkL (l.take i) + (1 + 0) : Nat)) : Int) = (ntkL (l.take i) : Int) + 1 := by omega
      rw [hx, hy]
      cases e1 : (cl != 0) <;> cases e2 : (v.tok.k == cl) <;> cases e3 : decide (0 < v.l.length) <;> cases e4 : badL cl (l.take i) <;> rfl
    · have hc' : (closerK v.tok.k == 0) = false := by simpa using hc
      have hc2 : (closerK v.tok.k != 0) = true := by simpa using hc
      have hbel : below (fun a : List Val × Int => totL a.1) k sLook (v.l, closerK v.tok.k) = some (fndOf (closerK v.tok.k) v.l) := (below_of (sz := fun a : List Val × Int => totL a.1) (show totL v.l < k by omega)).trans (sLook_of (by omega))
      simp (disch := omega) only [hc', hc2, cond_false, if_neg hc, hbel, Option.bind_some, fndOf, wrap_id]
      have hx : (if (depL v.l : Int) + 1 > (depL (l.take i) : Int) then (depL v.l : Int) + 1 else (depL (l.take i) : Int)) = (((max (depL (l.take i)) (max (1 + depL v.l) 0) : Nat)) : Int) := by split <;> omega
      have hy : (ntkL (l.take i) : Int) + 1 + (ntkL v.l : Int) + 1 = (((ntkL (l.take i) + (2 + ntkL v.l + 0) : Nat)) : Int) := by omega
      rw [hx, hy]
      cases e1 : (cl != 0) <;> cases e2 : (v.tok.k == cl) <;> cases e3 : decide (0 < v.l.length) <;> cases e4 : badL cl (l.take i) <;> cases e5 : badL (closerK v.tok.k) v.l <;> rfl
  · intro i b v b' hv hb hs
    cases hs
    rw [take_snoc hv, hb]
  · intro b k' hb
    simp only [nest_look_L0, dlt0, cond_false]; rfl
  · rw [runE_fold (fun (b : List Val) (v : Val) => b ++ [v]), foldl_snoc]
theorem M_look {K : CallT} (hK : ∀ args h, K 43 args h = none) (h67 : ∀ args h, K 67 args h = none) : Meets U (callV C K) 43 ⟨true, [.ty 33, .ty 5], [74], sLook⟩ :=
  meets_rec (U := U) (ak := [.ty 33, .ty 5]) (rts := [74]) (fun a : List Val × Int => totL a.1) sLook fun k ih => nest_look_meets hK _ _ (M_closer h67) ih _ fun a r h => by
    obtain ⟨h1, h2⟩ := below_some h
    unfold sLook at h2
    split at h2
    · rename_i h3
      cases h2
      exact ⟨_, look_walk a.2 a.1 k h1 h3⟩
    · cases h2
def checkE (l : List Val) : Int := if depL l > 16 then 20 else if ntkL l > 1500 then 4 else if badL 0 l then 8 else 0
def sCheck (l : List Val) : Option Int := if totL l ≤ B then some (checkE l) else none
theorem sCheck_of {l : List Val} (h : totL l ≤ B) : sCheck l = some (checkE l) := if_pos h
theorem check_walk (l : List Val) (h : totL l ≤ B) : nest_Check sLook 0 l = some (checkE l) := by
  unfold nest_Check checkE
  rw [sLook_of h]
  simp only [Option.bind_some, fndOf]
  by_cases h1 : depL l > 16
  · have : decide ((depL l : Int) > 16) = true := by simp; omega
    rw [this, if_pos h1]; rfl
  · have : decide ((depL l : Int) > 16) = false := by simp; omega
    rw [this, if_neg h1]
    by_cases h2 : ntkL l > 1500
    · have : decide ((ntkL l : Int) > 1500) = true := by simp; omega
      rw [this, if_pos h2]; rfl
    · have : decide ((ntkL l : Int) > 1500) = false := by simp; omega
      rw [this, if_neg h2]
      cases badL 0 l <;> rfl
theorem M_nestCheck {K : CallT} (hK : ∀ args h, K 24 args h = none) (h43 : ∀ args h, K 43 args h = none) (h67 : ∀ args h, K 67 args h = none) : Meets U (callV C K) 24 ⟨true, [.ty 33], [25], sCheck⟩ :=
  nest_Check_meets hK _ (M_look h43 h67) _ fun a r h => by
    unfold sCheck at h
    split at h
    · rename_i h3
      cases h
      exact ⟨0, check_walk a h3⟩
    · cases h
end Go.Tev.S1
namespace Go.Tev.S1
open Go.Abs Go.Proofs

def sDeep (l : List Val) : Option Int := if totL l ≤ B then some (depL l : Int) else none
theorem sDeep_of {l : List Val} (h : totL l ≤ B) : sDeep l = some (depL l : Int) := if_pos h
theorem deep_walk (l : List Val) (k : Nat) (h1 : totL l < k + 1) (h2 : totL l ≤ B) : ref04_Deep (fun k => some (closerK k)) (below totL k sDeep) (l.length + 1) l = some (depL l : Int) := by
  have hB : B = 2 ^ 36 := rfl
  unfold ref04_Deep
  refine (loop2_list l (fun (b : List Val) => (depL b : Int)) (fun b v => .inl (b ++ [v])) (fun b => some (depL b : Int)) (fun i b => b = l.take i) ?_ ?_ ?_ [] rfl _ (Nat.lt_succ_self _)).trans ?_
  · intro i b v k' hv hlt hb
    subst hb
    have hmem := List.mem_of_getElem? hv
    have hs := tot_sub hmem
    have hle := tot_take_le l i
    have hl := len_tot l
    have hd := depL_tot (l.take i)
    have hd' := depL_tot v.l
    have hbel : below totL k sDeep v.l = some (depL v.l : Int) := (below_of (by omega)).trans (sDeep_of (by omega))
    simp (disch := omega) only [ref04_Deep_L0, getI_nat hv, Option.bind_some, dlt hlt, cond_true, hbel, wrap_id]
    have hi : (i : Int) + 1 = ((i + 1 : Nat) : Int) := rfl
    rw [hi]
    simp only [depL_append, depL, Val.dep_eq v]
    by_cases hc : closerK v.tok.k = 0
    · have hc2 : (closerK v.tok.k != 0) = false := by simpa using hc
      simp only [hc2, cond_false, if_pos hc, Option.bind_some]
      congr 1; omega
    · have hc2 : (closerK v.tok.k != 0) = true := by simpa using hc
      simp (disch := omega) only [hc2, cond_true, if_neg hc, hbel, Option.bind_some, wrap_id]
      have hx : (if (1 : Int) + (depL v.l : Int) > (depL (l.take i) : Int) then (1 : Int) + (depL v.l : Int) else (depL (l.take i) : Int)) = (((max (depL (l.take i)) (max (1 + depL v.l) 0) : Nat)) : Int) := by split <;> omega
      rw [hx]
  · intro i b v b' hv hb hs
    cases hs
    rw [take_snoc hv, hb]
  · intro b k' hb
    simp only [ref04_Deep_L0, dlt0, cond_false]
  · rw [runE_fold (fun (b : List Val) (v : Val) => b ++ [v]), foldl_snoc]
theorem M_Deep {K : CallT} (hK : ∀ args h, K 33 args h = none) (h54 : ∀ args h, K 54 args h = none) : Meets U (callV C K) 33 ⟨true, [.ty 33], [3], sDeep⟩ :=
  meets_rec (U := U) (ak := [.ty 33]) (rts := [3]) totL sDeep fun k ih => ref04_Deep_meets hK _ _ (M_Closer h54) ih _ fun a r h => by
    obtain ⟨h1, h2⟩ := below_some h
    unfold sDeep at h2
    split at h2
    · rename_i h3; cases h2; exact ⟨_, deep_walk a k h1 h3⟩
    · cases h2

def sToks (l : List Val) : Option (List Tok) := if totL l ≤ B then some (tksL l) else none
theorem sToks_of {l : List Val} (h : totL l ≤ B) : sToks l = some (tksL l) := if_pos h
theorem room_of {b n : Nat} (h1 : n ≤ 2 ^ 40) (h2 : b ≤ 96) : room b n = some () := by
  unfold room
  have h3 : n * b ≤ 2 ^ 40 * 96 := Nat.mul_le_mul h1 h2
  rw [if_pos ⟨by omega, by omega⟩]
theorem toks_walk (l : List Val) (k : Nat) (h1 : totL l < k + 1) (h2 : totL l ≤ B) : ref04_Tokens (fun k => some (closerK k)) (below totL k sToks) (l.length + 1) l = some (tksL l) := by
  have hB : B = 2 ^ 36 := rfl
  unfold ref04_Tokens
  refine (loop2_list l (fun (b : List Val) => tksL b) (fun b v => .inl (b ++ [v])) (fun b => some (tksL b)) (fun i b => b = l.take i) ?_ ?_ ?_ [] rfl _ (Nat.lt_succ_self _)).trans ?_
  · intro i b v k' hv hlt hb
    subst hb
    have hmem := List.mem_of_getElem? hv
    have hs := tot_sub hmem
    have hle := tot_take_le l i
    have hl := len_tot l
    have hn := tksL_len (l.take i)
    have hn' := tksL_len v.l
    have hm := ntkL_tot (l.take i)
    have hm' := ntkL_tot v.l
    have hbel : below totL k sToks v.l = some (tksL v.l) := (below_of (by omega)).trans (sToks_of (by omega))
    have r1 : room 56 ((tksL (l.take i)).length + [v.tok].length) = some () := room_of (by simp; omega) (by decide)
    simp (disch := omega) only [ref04_Tokens_L0, getI_nat hv, Option.bind_some, dlt hlt, cond_true, hbel, r1, wrap_id]
    have hi : (i : Int) + 1 = ((i + 1 : Nat) : Int) := rfl
    rw [hi]
    simp only [tksL_append, tksL, Val.tks_eq v]
    by_cases hc : closerK v.tok.k = 0
    · have hc2 : (closerK v.tok.k != 0) = false := by simpa using hc
      simp only [hc2, cond_false, if_pos hc, Option.bind_some, List.append_nil]
    · have hc2 : (closerK v.tok.k != 0) = true := by simpa using hc
      have r2 : room 56 ((tksL (l.take i) ++ [v.tok]).length + (tksL v.l).length) = some () := room_of (by simp; omega) (by decide)
      have r3 : room 56 ((tksL (l.take i) ++ [v.tok] ++ tksL v.l).length + [Tok.mk (closerK v.tok.k) [] (0 : Int) [] false].length) = some () := room_of (by simp; omega) (by decide)
      simp only [hc2, cond_true, if_neg hc, hbel, Option.bind_some, r2, r3]
      simp
  · intro i b v b' hv hb hs
    cases hs
    rw [take_snoc hv, hb]
  · intro b k' hb
    simp only [ref04_Tokens_L0, dlt0, cond_false]
  · rw [runE_fold (fun (b : List Val) (v : Val) => b ++ [v]), foldl_snoc]
theorem M_Tokens {K : CallT} (hK : ∀ args h, K 46 args h = none) (h54 : ∀ args h, K 54 args h = none) : Meets U (callV C K) 46 ⟨true, [.ty 33], [78], sToks⟩ :=
  meets_rec (U := U) (ak := [.ty 33]) (rts := [78]) totL sToks fun k ih => ref04_Tokens_meets hK _ _ (M_Closer h54) ih _ fun a r h => by
    obtain ⟨h1, h2⟩ := below_some h
    unfold sToks at h2
    split at h2
    · rename_i h3; cases h2; exact ⟨_, toks_walk a k h1 h3⟩
    · cases h2

def sShaped (a : List Val × Int) : Option Bool := if totL a.1 ≤ B then some (!badL a.2 a.1) else none
theorem sShaped_of {l : List Val} {c : Int} (h : totL l ≤ B) : sShaped (l, c) = some (!badL c l) := if_pos h
theorem shaped_walk (c : Int) (l : List Val) (k : Nat) (h1 : totL l < k + 1) (h2 : totL l ≤ B) : ref04_shaped (fun k => some (closerK k)) (below (fun a : List Val × Int => totL a.1) k sShaped) (l.length + 1) l c = some (!badL c l) := by
  have hB : B = 2 ^ 36 := rfl
  unfold ref04_shaped
  refine (loop2_list l (fun (_ : Unit) => false) (fun b v => if v.bad c then .inr (some false) else .inl ()) (fun b => some true) (fun i b => True) ?_ ?_ ?_ () trivial _ (Nat.lt_succ_self _)).trans ?_
  · intro i b v k' hv hlt hb
    have hmem := List.mem_of_getElem? hv
    have hs := tot_sub hmem
    have hl := len_tot l
    have hbel : below (fun a : List Val × Int => totL a.1) k sShaped (v.l, closerK v.tok.k) = some (!badL (closerK v.tok.k) v.l) := (below_of (sz := fun a : List Val × Int => totL a.1) (show totL v.l < k by omega)).trans (sShaped_of (by omega))
    have hp : decide ((v.l.length : Int) > 0) = decide (0 < v.l.length) := by simp
    simp (disch := omega) only [ref04_shaped_L0, getI_nat hv, Option.bind_some, dlt hlt, cond_true, hbel, wrap_id]
    have hi : (i : Int) + 1 = ((i + 1 : Nat) : Int) := rfl
    rw [hi, Val.bad_eq]
    by_cases hc : closerK v.tok.k = 0
    · simp only [hc, beq_self_eq_true, cond_true, Option.bind_some, hp]
      cases e1 : (c != 0) <;> cases e2 : (v.tok.k == c) <;> cases e3 : decide (0 < v.l.length) <;> first | rfl | simp [e2]
    · have hc' : (closerK v.tok.k == 0) = false := by simpa using hc
      have hc2 : (closerK v.tok.k != 0) = true := by simpa using hc
      simp only [hc', hc2, cond_false, hbel, Option.bind_some]
      cases e1 : (c != 0) <;> cases e2 : (v.tok.k == c) <;> cases e5 : badL (closerK v.tok.k) v.l <;> rw [e5] at hbel <;> first | rfl | simp [e2, hbel]
  · intro i b v b' hv hb hs
    trivial
  · intro b k' hb
    simp only [ref04_shaped_L0, dlt0, cond_false]
  · clear h1 h2
    induction l with
    | nil => rfl
    | cons v l ih =>
      simp only [runE, badL]
      cases v.bad c with
      | true => rfl
      | false => simpa using ih
theorem M_shaped {K : CallT} (hK : ∀ args h, K 47 args h = none) (h54 : ∀ args h, K 54 args h = none) : Meets U (callV C K) 47 ⟨true, [.ty 33, .ty 5], [4], sShaped⟩ :=
  meets_rec (U := U) (ak := [.ty 33, .ty 5]) (rts := [4]) (fun a : List Val × Int => totL a.1) sShaped fun k ih => ref04_shaped_meets hK _ _ (M_Closer h54) ih _ fun a r h => by
    obtain ⟨h1, h2⟩ := below_some h
    unfold sShaped at h2
    split at h2
    · rename_i h3; cases h2; exact ⟨_, shaped_walk a.2 a.1 k h1 h3⟩
    · cases h2
theorem Check_walk (l : List Val) (h : totL l ≤ B) : ref04_Check sDeep sToks sShaped 0 l = some (checkE l) := by
  unfold ref04_Check checkE
  rw [sDeep_of h, sToks_of h, sShaped_of h]
  simp only [Option.bind_some, tksL_len]
  by_cases h1 : depL l > 16
  · have : decide ((depL l : Int) > 16) = true := by simp; omega
    rw [this, if_pos h1]; rfl
  · have : decide ((depL l : Int) > 16) = false := by simp; omega
    rw [this, if_neg h1]
    by_cases h2 : ntkL l > 1500
    · have : decide ((ntkL l : Int) > 1500) = true := by simp; omega
      rw [this, if_pos h2]; rfl
    · have : decide ((ntkL l : Int) > 1500) = false := by simp; omega
      rw [this, if_neg h2]
      cases badL 0 l <;> rfl
theorem M_refCheck {K : CallT} (hK : ∀ args h, K 27 args h = none) (h33 : ∀ args h, K 33 args h = none) (h46 : ∀ args h, K 46 args h = none) (h47 : ∀ args h, K 47 args h = none) (h54 : ∀ args h, K 54 args h = none) : Meets U (callV C K) 27 ⟨true, [.ty 33], [3], sCheck⟩ :=
  ref04_Check_meets hK _ _ _ (M_Deep h33 h54) (M_Tokens h46 h54) (M_shaped h47 h54) _ fun a r h => by
    unfold sCheck at h
    split at h
    · rename_i h3; cases h; exact ⟨0, Check_walk a h3⟩
    · cases h
end Go.Tev.S1
namespace Go.Tev
open Go.Abs
/-! texts -/
def lowB (b : UInt8) : UInt8 := if 65 ≤ b.toNat ∧ b.toNat ≤ 90 then b + 32 else b
def lowT (l : List UInt8) : List UInt8 := l.map lowB
def customT (l : List UInt8) : Bool := (decide ((l.length : Int) > 2) && decide ((l.length : Int) ≤ 64)) && (l.take 2 == [45, 45])
def Val.ref (v : Val) : Bool := v.tok.k == 2 && (lowT v.tok.t == [118, 97, 114])
mutual
def Val.hasv : Val → Bool
  | .mk t l => (t.k == 2 && (lowT t.t == [118, 97, 114])) || hasvL l
def hasvL : List Val → Bool
  | [] => false
  | v :: r => v.hasv || hasvL r
end
theorem Val.hasv_eq (v : Val) : v.hasv = (v.ref || hasvL v.l) := by cases v; rfl
theorem hasvL_append (a b : List Val) : hasvL (a ++ b) = (hasvL a || hasvL b) := by
  induction a with
  | nil => simp [hasvL]
  | cons v a ih => simp [hasvL, ih, Bool.or_assoc]
/-! spaces -/
def sp (v : Val) : Bool := v.tok.k == 13
def spL : List Val → List Val
  | [] => []
  | v :: r => if sp v then spL r else v :: r
def trR (l : List Val) : List Val := (spL l.reverse).reverse
def trL (l : List Val) : List Val := trR (spL l)
theorem totL_rev (l : List Val) : totL l.reverse = totL l := by
  induction l with
  | nil => rfl
  | cons v l ih => simp [totL_append, totL, ih]; omega
theorem tot_sp (l : List Val) : totL (spL l) ≤ totL l := by
  induction l with
  | nil => exact Nat.le_refl _
  | cons v r ih => unfold spL; split <;> simp only [totL] <;> omega
theorem tot_trL (l : List Val) : totL (trL l) ≤ totL l := by
  unfold trL trR
  rw [totL_rev]
  have h1 := tot_sp (spL l).reverse
  rw [totL_rev] at h1
  have h2 := tot_sp l
  omega
/-- name, value, is there a value -/
def partsV (l : List Val) : List UInt8 × List Val × Bool :=
  match spL l with
  | [] => ([], [], false)
  | x :: r => if x.tok.k = 1 ∧ customT x.tok.t = true then
      (match spL r with
      | [] => (x.tok.t, [], false)
      | y :: s => if y.tok.k = 18 then (x.tok.t, trL s, true) else ([], [], false))
    else ([], [], false)
theorem parts_tot (l : List Val) : totL (partsV l).2.1 ≤ totL l := by
  unfold partsV
  have h1 := tot_sp l
  cases e : spL l with
  | nil => simp [totL]
  | cons x r =>
    rw [e] at h1
    simp only [totL] at h1
    have h2 := tot_sp r
    simp only
    split
    · cases e2 : spL r with
      | nil => simp [totL]
      | cons y s =>
        rw [e2] at h2
        simp only [totL] at h2
        simp only
        split
        · have := tot_trL s
          simp only; omega
        · simp [totL]
    · simp [totL]
end Go.Tev
namespace Go.Tev.S1
open Go.Abs Go.Proofs

theorem kf {K : CallT} (hK : KFree K) (f : Nat) (h : f ∉ [25, 35, 44, 68]) : ∀ args g, K f args g = none := fun args g => hK f args g h
/-! custom names -/
theorem hasPrefix_walk (p q : List UInt8) : internal_stringslite_HasPrefix 0 p q = some (p.take q.length == q) := by
  unfold internal_stringslite_HasPrefix
  by_cases h : q.length ≤ p.length
  · have : decide ((p.length : Int) ≥ (q.length : Int)) = true := by simp; omega
    simp only [this, cond_true, subL]
    rw [if_pos (by omega)]
    simp
  · have : decide ((p.length : Int) ≥ (q.length : Int)) = false := by simp; omega
    simp only [this, cond_false, Option.bind_some]
    congr 1
    symm
    rw [beq_eq_false_iff_ne]
    intro he
    have := congrArg List.length he
    simp at this
    omega
theorem custom_walk (p : List UInt8) : props_Custom (fun a => some (a.1.take a.2.length == a.2)) 0 p = some (customT p) := by
  unfold props_Custom customT
  simp only [Option.bind_some, List.length_cons, List.length_nil]
  cases e1 : (p.take 2 == [45, 45]) <;> cases e2 : decide ((p.length : Int) > 2) <;> cases e3 : decide ((p.length : Int) ≤ 64) <;> rfl
theorem refCustom_walk (p : List UInt8) : ref25_Custom 0 p = some (customT p) := by
  unfold ref25_Custom customT
  simp only [Option.bind_some]
  by_cases h : (decide ((p.length : Int) > 2) && decide ((p.length : Int) ≤ 64)) = true
  · have h' := h
    rw [Bool.and_eq_true] at h'
    rw [h]
    simp only [h'.1, h'.2, cond_true, subL, Bool.true_and]
    have := of_decide_eq_true h'.1
    rw [if_pos (by omega)]
    rfl
  · have h2 : (bif decide ((p.length : Int) > 2) then decide ((p.length : Int) ≤ 64) else false) = false := by
      cases e2 : decide ((p.length : Int) > 2) <;> cases e3 : decide ((p.length : Int) ≤ 64) <;> simp [e2, e3] at h ⊢
    rw [Bool.not_eq_true] at h
    rw [h2, h]
    rfl
theorem M_hasPrefix0 {K : CallT} (hK : KFree K) : Meets U (callV C K) 77 ⟨true, [.ty 9, .ty 9], [4], fun a => some (a.1.take a.2.length == a.2)⟩ :=
  internal_stringslite_HasPrefix_meets (kf hK 77 (by decide)) _ fun a r h => by cases h; exact ⟨0, hasPrefix_walk a.1 a.2⟩
theorem M_hasPrefix {K : CallT} (hK : KFree K) : Meets U (callV C K) 66 ⟨true, [.ty 9, .ty 9], [4], fun a => some (a.1.take a.2.length == a.2)⟩ :=
  strings_HasPrefix_meets (kf hK 66 (by decide)) _ (M_hasPrefix0 hK) _ fun a r h => by cases h; exact ⟨0, rfl⟩
theorem M_Custom {K : CallT} (hK : KFree K) : Meets U (callV C K) 42 ⟨true, [.ty 9], [4], fun a => some (customT a)⟩ :=
  props_Custom_meets (kf hK 42 (by decide)) _ (M_hasPrefix hK) _ fun a r h => by cases h; exact ⟨0, custom_walk a⟩
theorem M_refCustom {K : CallT} (hK : KFree K) : Meets U (callV C K) 45 ⟨true, [.ty 9], [4], fun a => some (customT a)⟩ :=
  ref25_Custom_meets (kf hK 45 (by decide)) _ fun a r h => by cases h; exact ⟨0, refCustom_walk a⟩

/-! small letters -/
def sLow (l : List UInt8) : Option (List UInt8) := if l.length ≤ B then some (lowT l) else none
theorem sLow_of {l : List UInt8} (h : l.length ≤ B) : sLow l = some (lowT l) := if_pos h
def half (l b : List UInt8) : List Int := tobytes (b ++ l.drop b.length)
theorem half_get {l : List UInt8} {i : Nat} {v : UInt8} (hv : l[i]? = some v) : (half l (lowT (l.take i)))[i]? = some (v.toNat : Int) := by
  have hlt : i < l.length := (List.getElem?_eq_some_iff.1 hv).1
  simp only [half, tobytes, lowT, List.length_map, List.length_take, List.getElem?_map]
  rw [List.getElem?_append_right (by simp; omega)]
  simp only [List.length_map, List.length_take, List.getElem?_drop, Nat.min_eq_left (Nat.le_of_lt hlt)]
  rw [Nat.sub_self, Nat.add_zero, hv]; rfl
theorem half_len {l : List UInt8} {i : Nat} (h : i ≤ l.length) : (half l (lowT (l.take i))).length = l.length := by
  simp [half, tobytes, lowT]; omega
theorem half_snoc {l : List UInt8} {i : Nat} {v : UInt8} (hv : l[i]? = some v) : half l (lowT (l.take (i + 1))) = (half l (lowT (l.take i))).set i ((lowB v).toNat : Int) := by
  have hlt : i < l.length := (List.getElem?_eq_some_iff.1 hv).1
  apply List.ext_getElem?
  intro j
  rw [take_snoc hv]
  simp only [half, tobytes, lowT, List.map_append, List.map_cons, List.map_nil, List.length_append, List.length_map, List.length_take, Nat.min_eq_left (Nat.le_of_lt hlt), List.length_cons, List.length_nil]
  have hd : l.drop i = v :: l.drop (i + 1) := by
    rw [List.drop_eq_getElem_cons hlt]
    have := List.getElem?_eq_getElem hlt
    rw [hv] at this
    cases this; rfl
  rw [hd]
  simp only [List.append_assoc, List.cons_append, List.nil_append, List.map_append, List.map_cons, List.map_map]
  have hl : (List.map ((fun c => ((UInt8.toNat c : Nat) : Int)) ∘ lowB) (List.take i l)).length = i := by simp; omega
  rw [List.set_append_right _ _ (by rw [hl]; exact Nat.le_refl _), hl, Nat.sub_self]
  rfl
theorem half_set_same {l : List UInt8} {i : Nat} {v : UInt8} (hv : l[i]? = some v) (h : lowB v = v) : half l (lowT (l.take (i + 1))) = half l (lowT (l.take i)) := by
  rw [half_snoc hv, h]
  have h2 := half_get hv
  apply List.ext_getElem?
  intro j
  by_cases hj : i = j
  · subst hj
    rw [List.getElem?_set_self (by rw [half_len]; exact (List.getElem?_eq_some_iff.1 hv).1; exact Nat.le_of_lt (List.getElem?_eq_some_iff.1 hv).1), h2]
  · rw [List.getElem?_set_ne hj]
theorem unbytes_half (l : List UInt8) : unbytes ((half l (lowT l)).take l.length) = lowT l := by
  have : half l (lowT l) = tobytes (lowT l) := by
    unfold half
    rw [List.drop_eq_nil_of_le (by simp [lowT]), List.append_nil]
  rw [this, List.take_of_length_le (by simp [tobytes, lowT])]
  unfold unbytes tobytes
  rw [List.map_map]
  conv => rhs; rw [← List.map_id (lowT l)]
  apply List.map_congr_left
  intro c _
  simp
theorem lowB_up {v : UInt8} (h : 65 ≤ v.toNat ∧ v.toNat ≤ 90) : ((lowB v).toNat : Int) = (v.toNat : Int) + 32 := by
  unfold lowB
  rw [if_pos h, UInt8.toNat_add]
  have : (32 : UInt8).toNat = 32 := rfl
  rw [this]; omega
theorem lowB_no {v : UInt8} (h : ¬ (65 ≤ v.toNat ∧ v.toNat ≤ 90)) : lowB v = v := if_neg h
theorem wrap8 {n : Int} (h1 : 0 ≤ n) (h2 : n < 256) : IntKind.u8.wrap n = n := by
  simp [IntKind.wrap, IntKind.signed, IntKind.bits]
  omega
theorem small_walk (l : List UInt8) (h2 : l.length ≤ B) : short_small (l.length + 1) l = some (lowT l) := by
  have hB : B = 2 ^ 36 := rfl
  unfold short_small
  refine ((congrArg (fun z => loop2 _ _ _ z) (show tobytes l = half l (lowT (l.take 0)) by simp [half, lowT])).trans (loop2r_list l (half l) (fun b v => .inl (b ++ [lowB v])) (fun b => some (unbytes ((half l b).take l.length))) (fun i b => b = lowT (l.take i)) ?_ ?_ ?_ [] rfl _ (Nat.lt_succ_self _))).trans ?_
  · intro i b v k' hv hlt hb
    subst hb
    have hlen := half_len (l := l) (i := i) (by omega)
    have hn := v.toNat_lt
    have hg : (if 0 ≤ (i : Int) ∧ (i : Int) < l.length ∧ (i : Int) < (half l (lowT (l.take i))).length then some (i : Int).toNat else none) = some i := by
      rw [if_pos (by omega)]; rfl
    simp (disch := omega) only [short_small_L0, dlt hlt, cond_true, hg, Option.bind_some, half_get hv, wrap_id]
    have hi : (i : Int) + 1 = ((i + 1 : Nat) : Int) := rfl
    rw [hi]
    have hsn : half l (lowT (l.take i) ++ [lowB v]) = half l (lowT (l.take (i + 1))) := by rw [take_snoc hv]; simp [lowT]
    rw [hsn]
    by_cases hc : 65 ≤ v.toNat ∧ v.toNat ≤ 90
    · have e1 : decide ((v.toNat : Int) ≥ 65) = true := by simp; omega
      have e2 : decide ((v.toNat : Int) ≤ 90) = true := by simp; omega
      have e3 : i < (half l (lowT (l.take i))).length := by omega
      simp only [e1, e2, cond_true, hg, Option.bind_some, if_pos e3]
      rw [half_snoc hv, lowB_up hc]
      congr 3
      rw [wrap8 (n := (v.toNat : Int) + 97) (by omega) (by omega)]
      rw [wrap8 (by omega) (by omega)]
      omega
    · have e1 : (bif decide ((v.toNat : Int) ≥ 65) then decide ((v.toNat : Int) ≤ 90) else false) = false := by
        cases a : decide ((v.toNat : Int) ≥ 65)
        · rfl
        · simp at a ⊢; omega
      simp only [e1, cond_false, Option.bind_some]
      rw [half_set_same hv (lowB_no hc)]
  · intro i b v b' hv hb hs
    cases hs
    rw [take_snoc hv, hb]; simp [lowT]
  · intro b k' hb
    rw [List.take_length] at hb
    subst hb
    have := half_len (l := l) (i := l.length) (Nat.le_refl _)
    rw [List.take_length] at this
    simp only [short_small_L0, dlt0, cond_false, this, Nat.le_refl, if_true, Option.bind_some]
  · rw [runE_fold (fun (b : List UInt8) (v : UInt8) => b ++ [lowB v])]
    have : ∀ (l b : List UInt8), l.foldl (fun (b : List UInt8) (v : UInt8) => b ++ [lowB v]) b = b ++ lowT l := by
      intro l
      induction l with
      | nil => intro b; simp [lowT]
      | cons v l ih => intro b; simp only [List.foldl_cons, ih]; simp [lowT]
    rw [this, List.nil_append, unbytes_half]
theorem M_small {K : CallT} (hK : KFree K) : Meets U (callV C K) 52 ⟨true, [.ty 9], [9], sLow⟩ :=
  short_small_meets (kf hK 52 (by decide)) _ fun a r h => by
    unfold sLow at h
    split at h
    · rename_i h3; cases h; exact ⟨_, small_walk a h3⟩
    · cases h
end Go.Tev.S1
namespace Go.Tev.S1
open Go.Abs Go.Proofs

theorem refSmall_walk (l : List UInt8) (h2 : l.length ≤ B) : ref26_Small (l.length + 1) l = some (lowT l) := by
  have hB : B = 2 ^ 36 := rfl
  unfold ref26_Small
  refine ((congrArg (fun z => loop2 _ _ _ z) (show tobytes l = half l (lowT (l.take 0)) by simp [half, lowT])).trans (loop2r_list l (half l) (fun b v => .inl (b ++ [lowB v])) (fun b => some (unbytes ((half l b).take l.length))) (fun i b => b = lowT (l.take i)) ?_ ?_ ?_ [] rfl _ (Nat.lt_succ_self _))).trans ?_
  · intro i b v k' hv hlt hb
    subst hb
    have hlen := half_len (l := l) (i := i) (by omega)
    have hn := v.toNat_lt
    have hg : (if 0 ≤ (i : Int) ∧ (i : Int) < l.length ∧ (i : Int) < (half l (lowT (l.take i))).length then some (i : Int).toNat else none) = some i := by
      rw [if_pos (by omega)]; rfl
    simp (disch := omega) only [ref26_Small_L0, dlt hlt, cond_true, hg, Option.bind_some, half_get hv, wrap_id]
    have hi : (i : Int) + 1 = ((i + 1 : Nat) : Int) := rfl
    rw [hi]
    have hsn : half l (lowT (l.take i) ++ [lowB v]) = half l (lowT (l.take (i + 1))) := by rw [take_snoc hv]; simp [lowT]
    rw [hsn]
    have e3 : i < (half l (lowT (l.take i))).length := by omega
    by_cases hc : 65 ≤ v.toNat ∧ v.toNat ≤ 90
    · have e1 : decide ((v.toNat : Int) ≥ 65) = true := by simp; omega
      have e2 : decide ((v.toNat : Int) ≤ 90) = true := by simp; omega
      simp only [e1, e2, cond_true, hg, Option.bind_some, if_pos e3, half_get hv]
      rw [half_snoc hv, lowB_up hc]
      congr 3
      rw [wrap8 (by omega) (by omega)]
    · rw [half_set_same hv (lowB_no hc)]
      cases e1 : decide ((v.toNat : Int) ≥ 65)
      · simp only [cond_false, Option.bind_some]
      · have e2 : decide ((v.toNat : Int) ≤ 90) = false := by simp at e1 ⊢; omega
        simp only [cond_true, hg, Option.bind_some, half_get hv, e2, cond_false]
  · intro i b v b' hv hb hs
    cases hs
    rw [take_snoc hv, hb]; simp [lowT]
  · intro b k' hb
    rw [List.take_length] at hb
    subst hb
    have := half_len (l := l) (i := l.length) (Nat.le_refl _)
    rw [List.take_length] at this
    simp only [ref26_Small_L0, dlt0, cond_false, this, Nat.le_refl, if_true, Option.bind_some]
  · rw [runE_fold (fun (b : List UInt8) (v : UInt8) => b ++ [lowB v])]
    have : ∀ (l b : List UInt8), l.foldl (fun (b : List UInt8) (v : UInt8) => b ++ [lowB v]) b = b ++ lowT l := by
      intro l
      induction l with
      | nil => intro b; simp [lowT]
      | cons v l ih => intro b; simp only [List.foldl_cons, ih]; simp [lowT]
    rw [this, List.nil_append, unbytes_half]
theorem M_Small {K : CallT} (hK : KFree K) : Meets U (callV C K) 53 ⟨true, [.ty 9], [9], sLow⟩ :=
  ref26_Small_meets (kf hK 53 (by decide)) _ fun a r h => by
    unfold sLow at h
    split at h
    · rename_i h3; cases h; exact ⟨_, refSmall_walk a h3⟩
    · cases h

/-! var -/
def sRef (v : Val) : Option Bool := if v.tot ≤ B then some v.ref else none
theorem sRef_of {v : Val} (h : v.tot ≤ B) : sRef v = some v.ref := if_pos h
theorem Reference_walk (v : Val) (h : v.tot ≤ B) : ref30_Reference sLow 0 v = some v.ref := by
  have := v.tot_eq
  unfold ref30_Reference Val.ref
  cases e : (v.tok.k == 2)
  · rfl
  · simp only [cond_true, sLow_of (show v.tok.t.length ≤ B by omega), Option.bind_some, Bool.true_and]
theorem M_Reference {K : CallT} (hK : KFree K) : Meets U (callV C K) 60 ⟨true, [.ty 60], [4], sRef⟩ :=
  ref30_Reference_meets (kf hK 60 (by decide)) _ (M_Small hK) _ fun a r h => by
    unfold sRef at h
    split at h
    · rename_i h3; cases h; exact ⟨0, Reference_walk a h3⟩
    · cases h
theorem or_low : ∀ (c : Nat), c = 118 ∨ c = 97 ∨ c = 114 → ∀ (n : Nat), n < 256 → ((IntKind.u8.wrap (BitVec.ofInt 8 (n : Int) ||| BitVec.ofInt 8 32).toNat) == (c : Int)) = decide ((lowB (UInt8.ofNat n)).toNat = c) := by
  intro c hc
  rcases hc with rfl | rfl | rfl <;> decide +kernel
theorem lowB_eq {b : UInt8} {c : UInt8} (hc : c.toNat = 118 ∨ c.toNat = 97 ∨ c.toNat = 114) : ((IntKind.u8.wrap (BitVec.ofInt (IntKind.u8).bits (b.toNat : Int) ||| BitVec.ofInt (IntKind.u8).bits (32 : Int)).toNat) == (c.toNat : Int)) = (lowB b == c) := by
  have h := or_low c.toNat hc b.toNat b.toNat_lt
  rw [UInt8.ofNat_toNat] at h
  refine h.trans ?_
  rw [Bool.eq_iff_iff, decide_eq_true_iff, beq_iff_eq]
  exact ⟨UInt8.toNat_inj.1, fun h => h ▸ rfl⟩
theorem isVar_walk (v : Val) : vars_isVar 0 v = some v.ref := by
  unfold vars_isVar Val.ref
  cases e : (v.tok.k == 2)
  · rfl
  · simp only [cond_true, Option.bind_some, Bool.true_and]
    have h1 := fun b => lowB_eq (b := b) (c := 118) (Or.inl rfl)
    have h2 := fun b => lowB_eq (b := b) (c := 97) (Or.inr (Or.inl rfl))
    have h3 := fun b => lowB_eq (b := b) (c := 114) (Or.inr (Or.inr rfl))
    have c1 : (((118 : UInt8).toNat : Nat) : Int) = 118 := rfl
    have c2 : (((97 : UInt8).toNat : Nat) : Int) = 97 := rfl
    have c3 : (((114 : UInt8).toNat : Nat) : Int) = 114 := rfl
    rw [c1] at h1
    rw [c2] at h2
    rw [c3] at h3
    rcases v.tok.t with _ | ⟨a, _ | ⟨b, _ | ⟨c, _ | ⟨d, r⟩⟩⟩⟩
    · rfl
    · have : (lowT [a] == [118, 97, 114]) = false := by simp [lowT]
      rw [this]; rfl
    · have : (lowT [a, b] == [118, 97, 114]) = false := by simp [lowT]
      rw [this]; rfl
    · have e0 : (([a, b, c].length : Int) == 3) = true := rfl
      have g0 : getI [a, b, c] 0 = some a := rfl
      have g1 : getI [a, b, c] 1 = some b := rfl
      have g2 : getI [a, b, c] 2 = some c := rfl
      simp only [e0, g0, g1, g2, cond_true, Option.bind_some, h1]
      have hl : (lowT [a, b, c] == [118, 97, 114]) = (lowB a == 118 && (lowB b == 97 && lowB c == 114)) := by
        simp only [lowT, List.map_cons, List.map_nil, List.cons_beq_cons, Bool.and_true, beq_self_eq_true]
      rw [hl]
      cases e1 : (lowB a == 118)
      · rfl
      · simp only [cond_true, Option.bind_some, h2]
        cases e2 : (lowB b == 97)
        · rfl
        · simp only [cond_true, Option.bind_some, h3]
          rfl
    · have e0 : (((a :: b :: c :: d :: r).length : Int) == 3) = false := by
        simp only [List.length_cons, beq_eq_false_iff_ne]; omega
      have : (lowT (a :: b :: c :: d :: r) == [118, 97, 114]) = false := by simp [lowT]
      rw [e0, this]; rfl
theorem M_isVar {K : CallT} (hK : KFree K) : Meets U (callV C K) 55 ⟨true, [.ty 60], [4], fun v => some v.ref⟩ :=
  vars_isVar_meets (kf hK 55 (by decide)) _ fun a r h => by cases h; exact ⟨0, isVar_walk a⟩
def sHas (l : List Val) : Option Bool := if totL l ≤ B then some (hasvL l) else none
theorem sHas_of {l : List Val} (h : totL l ≤ B) : sHas l = some (hasvL l) := if_pos h
theorem refVar_walk (l : List Val) (k : Nat) (h1 : totL l < k + 1) (h2 : totL l ≤ B) : ref27_Var sLow (below totL k sHas) (l.length + 1) l = some (hasvL l) := by
  have hB : B = 2 ^ 36 := rfl
  unfold ref27_Var
  refine (loop2_list l (fun (_ : Unit) => false) (fun b v => if v.hasv then .inr (some true) else .inl ()) (fun b => some false) (fun i b => True) ?_ ?_ ?_ () trivial _ (Nat.lt_succ_self _)).trans ?_
  · intro i b v k' hv hlt hb
    have hmem := List.mem_of_getElem? hv
    have hs := tot_sub hmem
    have hm := tot_mem hmem
    have he := v.tot_eq
    have hl := len_tot l
    have hbel : below totL k sHas v.l = some (hasvL v.l) := (below_of (show totL v.l < k by omega)).trans (sHas_of (by omega))
    simp (disch := omega) only [ref27_Var_L0, getI_nat hv, Option.bind_some, dlt hlt, cond_true, hbel, wrap_id, sLow_of (show v.tok.t.length ≤ B by omega)]
    have hi : (i : Int) + 1 = ((i + 1 : Nat) : Int) := rfl
    rw [hi, Val.hasv_eq, Val.ref]
    cases e1 : (v.tok.k == 2) <;> cases e2 : (lowT v.tok.t == [118, 97, 114]) <;> cases e5 : hasvL v.l <;> rw [e5] at hbel <;> first | rfl | simp [e2, hbel]
  · intro i b v b' hv hb hs
    trivial
  · intro b k' hb
    simp only [ref27_Var_L0, dlt0, cond_false]
  · clear h1 h2
    induction l with
    | nil => rfl
    | cons v l ih =>
      simp only [runE, hasvL]
      cases v.hasv with
      | true => rfl
      | false => simpa using ih
theorem M_refVar {K : CallT} (hK : KFree K) : Meets U (callV C K) 31 ⟨true, [.ty 33], [4], sHas⟩ :=
  meets_rec (U := U) (ak := [.ty 33]) (rts := [4]) totL sHas fun k ih => ref27_Var_meets (kf hK 31 (by decide)) _ _ (M_Small hK) ih _ fun a r h => by
    obtain ⟨h1, h2⟩ := below_some h
    unfold sHas at h2
    split at h2
    · rename_i h3; cases h2; exact ⟨_, refVar_walk a k h1 h3⟩
    · cases h2
/-- where the first is -/
def firstv : List Val → Int → Int
  | [], _ => -1
  | v :: r, i => if v.hasv then i else firstv r (i + 1)
theorem firstv_ge (l : List Val) : ∀ i : Nat, decide (firstv l (i : Int) ≥ 0) = hasvL l := by
  induction l with
  | nil => intro i; rfl
  | cons v r ih =>
    intro i
    by_cases h : v.hasv = true
    · have e : firstv (v :: r) (i : Int) = i := by simp only [firstv, h, if_true]
      rw [e, hasvL, h]; simp
    · have e : firstv (v :: r) (i : Int) = firstv r ((i + 1 : Nat) : Int) := by simp only [firstv, if_neg h]; rfl
      rw [e, ih (i + 1), hasvL, (Bool.not_eq_true _).mp h, Bool.false_or]
def sV1 (k : Nat) (v : Val) : Option Bool := if totL v.l < k ∧ v.tot ≤ B then some v.hasv else none
def sV2 (k : Nat) (l : List Val) : Option Int := if totL l < k + 1 ∧ totL l ≤ B then some (firstv l 0) else none
def sV3 (k : Nat) (l : List Val) : Option Bool := if totL l < k + 1 ∧ totL l ≤ B then some (hasvL l) else none
theorem V1_walk (k : Nat) (v : Val) (h1 : totL v.l < k) (h2 : v.tot ≤ B) : short_Var_1 sLow (below totL k sHas) 0 v = some v.hasv := by
  have he := v.tot_eq
  have hbel : below totL k sHas v.l = some (hasvL v.l) := (below_of (show totL v.l < k by omega)).trans (sHas_of (by omega))
  unfold short_Var_1
  simp only [sLow_of (show v.tok.t.length ≤ B by omega), hbel, Option.bind_some]
  rw [Val.hasv_eq, Val.ref]
  cases e1 : (v.tok.k == 2) <;> cases e2 : (lowT v.tok.t == [118, 97, 114]) <;> cases e5 : hasvL v.l <;> first | rfl | simp [e2]
theorem V2_walk (k : Nat) (l : List Val) (h1 : totL l < k + 1) (h2 : totL l ≤ B) : slices_IndexFuncapi_Value_api_Value_short_Var_1 (sV1 k) (l.length + 1) l = some (firstv l 0) := by
  have hB : B = 2 ^ 36 := rfl
  unfold slices_IndexFuncapi_Value_api_Value_short_Var_1
  refine (loop2_list l (fun (_ : Nat) => (0 : Int)) (fun b v => if v.hasv then .inr (some (b : Int)) else .inl (b + 1)) (fun b => some (-1 : Int)) (fun i b => b = i) ?_ ?_ ?_ 0 rfl _ (Nat.lt_succ_self _)).trans ?_
  · intro i b v k' hv hlt hb
    subst hb
    have hmem := List.mem_of_getElem? hv
    have hs := tot_sub hmem
    have hm := tot_mem hmem
    have hl := len_tot l
    have h3 : sV1 k (Val.mk v.tok v.l) = some v.hasv := by rw [Val.eta]; exact if_pos ⟨by omega, by omega⟩
    simp (disch := omega) only [slices_IndexFuncapi_Value_api_Value_short_Var_1_L0, getI_nat hv, Option.bind_some, dlt hlt, cond_true, h3, wrap_id]
    cases v.hasv <;> rfl
  · intro i b v b' hv hb hs
    subst hb
    cases e : v.hasv <;> rw [e] at hs <;> cases hs
    rfl
  · intro b k' hb
    simp only [slices_IndexFuncapi_Value_api_Value_short_Var_1_L0, dlt0, cond_false]
  · clear h1 h2
    have : ∀ (l : List Val) (b : Nat), runE (fun (b : Nat) (v : Val) => if v.hasv then .inr (some (b : Int)) else .inl (b + 1)) (fun _ => some (-1 : Int)) l b = some (firstv l (b : Int)) := by
      intro l
      induction l with
      | nil => intro b; rfl
      | cons v l ih =>
        intro b
        simp only [runE, firstv]
        cases v.hasv with
        | true => rfl
        | false => exact ih (b + 1)
    exact this l 0
theorem M_Var {K : CallT} (hK : KFree K) : Meets U (callV C K) 29 ⟨true, [.ty 33], [4], sHas⟩ :=
  meets_rec (U := U) (ak := [.ty 33]) (rts := [4]) totL sHas fun k ih =>
    have m1 : Meets U (callV C K) 51 ⟨true, [.ty 60], [4], sV1 k⟩ := short_Var_1_meets (kf hK 51 (by decide)) _ _ (M_small hK) ih _ fun a r h => by
      unfold sV1 at h
      split at h
      · rename_i h3; cases h; exact ⟨0, V1_walk k a h3.1 h3.2⟩
      · cases h
    have m2 : Meets U (callV C K) 70 ⟨true, [.ty 33, .fn 51], [3], sV2 k⟩ := slices_IndexFuncapi_Value_api_Value_short_Var_1_meets (kf hK 70 (by decide)) _ m1 _ fun a r h => by
      unfold sV2 at h
      split at h
      · rename_i h3; cases h; exact ⟨_, V2_walk k a h3.1 h3.2⟩
      · cases h
    have m3 : Meets U (callV C K) 50 ⟨true, [.ty 33, .fn 51], [4], sV3 k⟩ := slices_ContainsFuncapi_Value_api_Value_short_Var_1_meets (kf hK 50 (by decide)) _ m2 _ fun a r h => by
      unfold sV3 at h
      split at h
      · rename_i h3; cases h
        refine ⟨0, ?_⟩
        unfold slices_ContainsFuncapi_Value_api_Value_short_Var_1
        rw [show sV2 k a = some (firstv a 0) from if_pos h3]
        exact congrArg some (firstv_ge a 0)
      · cases h
    short_Var_meets (kf hK 29 (by decide)) _ m3 _ fun a r h => by
      obtain ⟨h1, h2⟩ := below_some h
      unfold sHas at h2
      split at h2
      · rename_i h3; cases h2
        refine ⟨0, ?_⟩
        unfold short_Var
        rw [show sV3 k a = some (hasvL a) from if_pos ⟨h1, h3⟩]
        rfl
      · cases h2
end Go.Tev.S1
namespace Go.Tev
open Go.Abs
/-! size, up to a limit -/
mutual
def Val.siz (lim : Int) : Val → Int
  | .mk t l => IntKind.i64.wrap ((IntKind.i64.wrap ((IntKind.i64.wrap ((1 : Int) + (t.t.length : Int))) + (t.u.length : Int))) + sizL lim 0 l)
def sizL (lim acc : Int) : List Val → Int
  | [] => acc
  | v :: r => if acc ≤ lim then sizL lim (IntKind.i64.wrap (acc + v.siz (IntKind.i64.wrap (lim - acc)))) r else acc
end
theorem Val.siz_eq (lim : Int) (v : Val) : v.siz lim = IntKind.i64.wrap ((IntKind.i64.wrap ((IntKind.i64.wrap ((1 : Int) + (v.tok.t.length : Int))) + (v.tok.u.length : Int))) + sizL lim 0 v.l) := by cases v; rfl
mutual
def Val.eqb : Val → Val → Bool
  | .mk t l, .mk t' l' => Tok.eqb t t' && eqbL l l'
def eqbL : List Val → List Val → Bool
  | [], [] => true
  | v :: r, v' :: r' => v.eqb v' && eqbL r r'
  | _, _ => false
end
end Go.Tev
namespace Go.Tev.S1
open Go.Abs Go.Proofs
def sSize (a : List Val × Int) : Option Int := if totL a.1 ≤ B then some (sizL a.2 0 a.1) else none
theorem sSize_of {l : List Val} {c : Int} (h : totL l ≤ B) : sSize (l, c) = some (sizL c 0 l) := if_pos h
theorem size_walk (lim : Int) (l : List Val) (k : Nat) (h1 : totL l < k + 1) (h2 : totL l ≤ B) : ref04_Size (below (fun a : List Val × Int => totL a.1) k sSize) (l.length + 2) l lim = some (sizL lim 0 l) := by
  have hB : B = 2 ^ 36 := rfl
  unfold ref04_Size loop2
  have main : ∀ (r : List Val) (i : Nat) (acc : Int) (fuel : Nat), l.drop i = r → i ≤ l.length → r.length + 1 < fuel → loopT (fun y k_1 => ref04_Size_L0 (below (fun a : List Val × Int => totL a.1) k sSize) (l.length + 2) l lim 0 (fun z1 => some z1) y.1 y.2.1 fun a0 a1 => k_1 (a0, a1, ())) fuel (acc, (i : Int), ()) = some (sizL lim acc r) := by
    intro r
    induction r with
    | nil =>
      intro i acc fuel hr hi hf
      obtain ⟨n, rfl⟩ : ∃ n, fuel = n + 1 := ⟨fuel - 1, by omega⟩
      have : i = l.length := by
        have := congrArg List.length hr
        simp at this; omega
      subst this
      simp only [loopT, ref04_Size_L0, dlt0, cond_false, Option.bind_some, sizL]
    | cons v r ih =>
      intro i acc fuel hr hi hf
      obtain ⟨n, rfl⟩ : ∃ n, fuel = n + 1 := ⟨fuel - 1, by omega⟩
      have hv : l[i]? = some v := by
        have := congrArg (fun x => x[0]?) hr
        simpa using this
      have hlt : i < l.length := (List.getElem?_eq_some_iff.1 hv).1
      have hr' : l.drop (i + 1) = r := by rw [← List.drop_drop, hr]; rfl
      have hmem := List.mem_of_getElem? hv
      have hs := tot_sub hmem
      have hl := len_tot l
      have hbel : below (fun a : List Val × Int => totL a.1) k sSize (v.l, IntKind.i64.wrap (lim - acc)) = some (sizL (IntKind.i64.wrap (lim - acc)) 0 v.l) := (below_of (sz := fun a : List Val × Int => totL a.1) (show totL v.l < k by omega)).trans (sSize_of (by omega))
      rw [sizL, Val.siz_eq]
      by_cases hc : acc ≤ lim
      · have e1 : decide (acc ≤ lim) = true := decide_eq_true hc
        rw [if_pos hc]
        simp only [loopT, ref04_Size_L0, dlt hlt, cond_true, Option.bind_some, e1, getI_nat hv, hbel]
        rw [wrap_add1 (by omega)]
        exact ih (i + 1) _ n hr' (by omega) (by simp at hf; omega)
      · have e1 : decide (acc ≤ lim) = false := decide_eq_false hc
        rw [if_neg hc]
        simp only [loopT, ref04_Size_L0, dlt hlt, cond_true, cond_false, Option.bind_some, e1]
  exact main l 0 0 (l.length + 2) rfl (Nat.zero_le _) (by omega)
theorem M_Size {K : CallT} (hK : KFree K) : Meets U (callV C K) 22 ⟨true, [.ty 33, .ty 3], [3], sSize⟩ :=
  meets_rec (U := U) (ak := [.ty 33, .ty 3]) (rts := [3]) (fun a : List Val × Int => totL a.1) sSize fun k ih => ref04_Size_meets (kf hK 22 (by decide)) _ ih _ fun a r h => by
    obtain ⟨h1, h2⟩ := below_some h
    unfold sSize at h2
    split at h2
    · rename_i h3; cases h2; exact ⟨_, size_walk a.2 a.1 k h1 h3⟩
    · cases h2
def great (l : List Val) : Bool := decide (sizL 300 0 l > 300) || decide (depL l > 40)
def sGreat (l : List Val) : Option Bool := if totL l ≤ B then some (great l) else none
theorem sGreat_of {l : List Val} (h : totL l ≤ B) : sGreat l = some (great l) := if_pos h
theorem great_walk (l : List Val) (h : totL l ≤ B) : ref04_Great sSize sDeep 0 l = some (great l) := by
  unfold ref04_Great great
  rw [sSize_of h, sDeep_of h]
  simp only [Option.bind_some]
  have : decide ((depL l : Int) > 40) = decide (depL l > 40) := by simp; omega
  rw [← this]
  cases decide (sizL 300 0 l > 300) <;> rfl
theorem M_Great {K : CallT} (hK : KFree K) : Meets U (callV C K) 12 ⟨true, [.ty 33], [4], sGreat⟩ :=
  ref04_Great_meets (kf hK 12 (by decide)) _ _ (M_Size hK) (M_Deep (kf hK 33 (by decide)) (kf hK 54 (by decide))) _ fun a r h => by
    unfold sGreat at h
    split at h
    · rename_i h3; cases h; exact ⟨0, great_walk a h3⟩
    · cases h
/-! same -/
def sSame (a : List Val × List Val) : Option Bool := if totL a.1 ≤ B ∧ totL a.2 ≤ B then some (eqbL a.1 a.2) else none
theorem sSame_of {l m : List Val} (h : totL l ≤ B) (h2 : totL m ≤ B) : sSame (l, m) = some (eqbL l m) := if_pos ⟨h, h2⟩
theorem Val.eqb_eq (v w : Val) : v.eqb w = (Tok.eqb v.tok w.tok && eqbL v.l w.l) := by cases v; cases w; rfl
theorem eqbL_len : ∀ (l m : List Val), l.length ≠ m.length → eqbL l m = false
  | [], [], h => absurd rfl h
  | [], _ :: _, _ => rfl
  | _ :: _, [], _ => rfl
  | v :: r, w :: s, h => by
    rw [eqbL, eqbL_len r s (by simp at h; exact h), Bool.and_false]
theorem same_walk (l m : List Val) (k : Nat) (h1 : totL l < k + 1) (h2 : totL l ≤ B) (h3 : totL m ≤ B) : ref04_Same (below (fun a : List Val × List Val => totL a.1) k sSame) (l.length + 1) l m = some (eqbL l m) := by
  have hB : B = 2 ^ 36 := rfl
  unfold ref04_Same
  by_cases hle : l.length = m.length
  · have e0 : ((l.length : Int) != (m.length : Int)) = false := by simp [hle]
    rw [e0, cond_false]
    refine (loop2_list (l.zip m) (fun (_ : Unit) => false) (fun b v => if v.1.eqb v.2 then .inl () else .inr (some false)) (fun b => some true) (fun i b => True) ?_ ?_ ?_ () trivial _ (by simp; omega)).trans ?_
    · intro i b v k' hv hlt hb
      have hz : i < l.length ∧ i < m.length := by simp at hlt; omega
      obtain ⟨hv1, hv2⟩ := List.getElem?_zip_eq_some.1 hv
      have hmem := List.mem_of_getElem? hv1
      have hmem2 := List.mem_of_getElem? hv2
      have hs := tot_sub hmem
      have hs2 := tot_sub hmem2
      have hl := len_tot l
      have hbel : below (fun a : List Val × List Val => totL a.1) k sSame (v.1.l, v.2.l) = some (eqbL v.1.l v.2.l) := (below_of (sz := fun a : List Val × List Val => totL a.1) (show totL v.1.l < k by omega)).trans (sSame_of (by omega) (by omega))
      simp (disch := omega) only [ref04_Same_L0, getI_nat hv1, getI_nat hv2, Option.bind_some, dlt hz.1, cond_true, hbel, wrap_id]
      have hi : (i : Int) + 1 = ((i + 1 : Nat) : Int) := rfl
      rw [hi, Val.eqb_eq]
      cases e1 : Tok.eqb v.1.tok v.2.tok <;> cases e5 : eqbL v.1.l v.2.l <;> rw [e5] at hbel <;> first | rfl | simp [hbel]
    · intro i b v b' hv hb hs
      trivial
    · intro b k' hb
      have : (l.zip m).length = l.length := by simp; omega
      rw [this]
      simp only [ref04_Same_L0, dlt0, cond_false]
    · clear h1 h2 h3 e0
      induction l generalizing m with
      | nil => cases m with
        | nil => rfl
        | cons w m => simp at hle
      | cons v l ih => cases m with
        | nil => simp at hle
        | cons w m =>
          simp only [List.zip_cons_cons, runE, eqbL]
          cases v.eqb w with
          | true => simpa using ih m (by simp at hle; exact hle)
          | false => rfl
  · have e0 : ((l.length : Int) != (m.length : Int)) = true := by simp; omega
    rw [e0, eqbL_len l m hle]; rfl
theorem M_Same {K : CallT} (hK : KFree K) : Meets U (callV C K) 21 ⟨true, [.ty 33, .ty 33], [4], sSame⟩ :=
  meets_rec (U := U) (ak := [.ty 33, .ty 33]) (rts := [4]) (fun a : List Val × List Val => totL a.1) sSame fun k ih => ref04_Same_meets (kf hK 21 (by decide)) _ ih _ fun a r h => by
    obtain ⟨h1, h2⟩ := below_some h
    unfold sSame at h2
    split at h2
    · rename_i h3; cases h2; exact ⟨_, same_walk a.1 a.2 k h1 h3.1 h3.2⟩
    · cases h2
mutual
theorem eqb_rfl : ∀ v : Val, v.eqb v = true
  | .mk t l => by rw [Val.eqb, eqbL_rfl l, Bool.and_true]; simp [Tok.eqb]
theorem eqbL_rfl : ∀ l : List Val, eqbL l l = true
  | [] => rfl
  | v :: r => by rw [eqbL, eqb_rfl v, eqbL_rfl r]; rfl
end
/-! twin -/
def sTwin (l : List Val) : Option (List Val) := if totL l ≤ B then some l else none
theorem sTwin_of {l : List Val} (h : totL l ≤ B) : sTwin l = some l := if_pos h
theorem twin_walk (l : List Val) (k : Nat) (h1 : totL l < k + 1) (h2 : totL l ≤ B) : ref26_Twin (below totL k sTwin) (l.length + 1) l = some l := by
  have hB : B = 2 ^ 36 := rfl
  unfold ref26_Twin
  refine (loop2_list l (fun (b : List Val) => b) (fun b v => .inl (b ++ [v])) (fun b => some b) (fun i b => b = l.take i) ?_ ?_ ?_ [] rfl _ (Nat.lt_succ_self _)).trans ?_
  · intro i b v k' hv hlt hb
    subst hb
    have hmem := List.mem_of_getElem? hv
    have hs := tot_sub hmem
    have hl := len_tot l
    have hbel : below totL k sTwin v.l = some v.l := (below_of (show totL v.l < k by omega)).trans (sTwin_of (by omega))
    have r1 : room 80 ((l.take i).length + [v].length) = some () := room_of (by simp; omega) (by decide)
    simp (disch := omega) only [ref26_Twin_L0, getI_nat hv, Option.bind_some, dlt hlt, cond_true, hbel, Val.eta, r1, wrap_id]
    rfl
  · intro i b v b' hv hb hs
    cases hs
    rw [take_snoc hv, hb]
  · intro b k' hb
    simp only [ref26_Twin_L0, dlt0, cond_false]
  · rw [runE_fold (fun (b : List Val) (v : Val) => b ++ [v]), foldl_snoc]
theorem M_Twin {K : CallT} (hK : KFree K) : Meets U (callV C K) 13 ⟨true, [.ty 33], [33], sTwin⟩ :=
  meets_rec (U := U) (ak := [.ty 33]) (rts := [33]) totL sTwin fun k ih => ref26_Twin_meets (kf hK 13 (by decide)) _ ih _ fun a r h => by
    obtain ⟨h1, h2⟩ := below_some h
    unfold sTwin at h2
    split at h2
    · rename_i h3; cases h2; exact ⟨_, twin_walk a k h1 h3⟩
    · cases h2
end Go.Tev.S1
namespace Go.Tev.S1
open Go.Abs Go.Proofs
/-! texts -/
def sTexts (a : List (List UInt8) × List (List UInt8)) : Option Bool := if a.1.length ≤ B then some (a.1 == a.2) else none
theorem sTexts_of {l m : List (List UInt8)} (h : l.length ≤ B) : sTexts (l, m) = some (l == m) := if_pos h
theorem texts_walk (l m : List (List UInt8)) (h : l.length ≤ B) : ref27_SameTexts (l.length + 1) l m = some (l == m) := by
  have hB : B = 2 ^ 36 := rfl
  unfold ref27_SameTexts
  by_cases hle : l.length = m.length
  · have e0 : ((l.length : Int) != (m.length : Int)) = false := by simp [hle]
    rw [e0, cond_false]
    refine (loop2_list (l.zip m) (fun (_ : Unit) => false) (fun b v => if v.1 == v.2 then .inl () else .inr (some false)) (fun b => some true) (fun i b => True) ?_ ?_ ?_ () trivial _ (by simp; omega)).trans ?_
    · intro i b v k' hv hlt hb
      have hz : i < l.length ∧ i < m.length := by simp at hlt; omega
      obtain ⟨hv1, hv2⟩ := List.getElem?_zip_eq_some.1 hv
      simp (disch := omega) only [ref27_SameTexts_L0, getI_nat hv1, getI_nat hv2, Option.bind_some, dlt hz.1, cond_true, wrap_id]
      have hi : (i : Int) + 1 = ((i + 1 : Nat) : Int) := rfl
      rw [hi, bne]
      cases e1 : (v.1 == v.2) <;> rfl
    · intro i b v b' hv hb hs
      trivial
    · intro b k' hb
      have : (l.zip m).length = l.length := by simp; omega
      rw [this]
      simp only [ref27_SameTexts_L0, dlt0, cond_false]
    · clear h e0
      induction l generalizing m with
      | nil => cases m with
        | nil => rfl
        | cons w m => simp at hle
      | cons v l ih => cases m with
        | nil => simp at hle
        | cons w m =>
          simp only [List.zip_cons_cons, runE, List.cons_beq_cons]
          cases (v == w) with
          | true => simpa using ih m (by simp at hle; exact hle)
          | false => rfl
  · have e0 : ((l.length : Int) != (m.length : Int)) = true := by simp; omega
    have e1 : (l == m) = false := by
      rw [beq_eq_false_iff_ne]; intro h; exact hle (congrArg List.length h)
    rw [e0, e1]; rfl
theorem M_texts {K : CallT} (hK : KFree K) : Meets U (callV C K) 20 ⟨true, [.ty 40, .ty 40], [4], sTexts⟩ :=
  ref27_SameTexts_meets (kf hK 20 (by decide)) _ fun a r h => by
    unfold sTexts at h
    split at h
    · rename_i h3; cases h; exact ⟨_, texts_walk a.1 a.2 h3⟩
    · cases h
/-! length -/
theorem vlen_walk (l : List Val) (k : Nat) (h1 : totL l < k + 1) (h2 : totL l ≤ B) : vars_length (below totL k sLong) (l.length + 1) l = some (totL l : Int) := by
  have hB : B = 2 ^ 36 := rfl
  unfold vars_length
  refine (loop2_list l (fun (b : List Val) => (totL b : Int)) (fun b v => .inl (b ++ [v])) (fun b => some (totL b : Int)) (fun i b => b = l.take i) ?_ ?_ ?_ [] rfl _ (Nat.lt_succ_self _)).trans ?_
  · intro i b v k' hv hlt hb
    subst hb
    have hmem := List.mem_of_getElem? hv
    have hs := tot_sub hmem
    have ht := tot_take hv
    have hle := tot_take_le l (i + 1)
    have hl := len_tot l
    have he := v.tot_eq
    have hbel : below totL k sLong v.l = some (totL v.l : Int) := (below_of (show totL v.l < k by omega)).trans (sLong_of (by omega))
    simp (disch := omega) only [vars_length_L0, getI_nat hv, Option.bind_some, dlt hlt, cond_true, hbel, wrap_id]
    have hx : (totL (l.take i) : Int) + (1 + (v.tok.t.length : Int) + (v.tok.u.length : Int) + (totL v.l : Int)) = (totL (l.take i ++ [v]) : Int) := by
      rw [totL_append]; simp only [totL]; omega
    rw [hx]; rfl
  · intro i b v b' hv hb hs
    cases hs
    rw [take_snoc hv, hb]
  · intro b k' hb
    simp only [vars_length_L0, dlt0, cond_false]
  · rw [runE_fold (fun (b : List Val) (v : Val) => b ++ [v]), foldl_snoc]
theorem M_vlen {K : CallT} (hK : KFree K) : Meets U (callV C K) 30 ⟨true, [.ty 33], [3], sLong⟩ :=
  meets_rec (U := U) (ak := [.ty 33]) (rts := [3]) totL sLong fun k ih => vars_length_meets (kf hK 30 (by decide)) _ ih _ fun a r h => by
    obtain ⟨h1, h2⟩ := below_some h
    obtain ⟨h3, rfl⟩ := sLong_some h2
    exact ⟨_, vlen_walk a k h1 h3⟩
def lenE (l : List Val) : Int × Int := if checkE l = 0 then ((totL l : Int), 0) else (0, checkE l)
def sLen (l : List Val) : Option (Int × Int) := if totL l ≤ B then some (lenE l) else none
theorem sLen_of {l : List Val} (h : totL l ≤ B) : sLen l = some (lenE l) := if_pos h
theorem Length_walk (l : List Val) (h : totL l ≤ B) : vars_Length sCheck sLong 0 l = some (lenE l) := by
  unfold vars_Length lenE
  rw [sCheck_of h, sLong_of h]
  simp only [Option.bind_some]
  by_cases h : checkE l = 0
  · have : (checkE l != 0) = false := by simpa using h
    rw [this, if_pos h]; rfl
  · have : (checkE l != 0) = true := by simpa using h
    rw [this, if_neg h]; rfl
theorem M_Length {K : CallT} (hK : KFree K) : Meets U (callV C K) 14 ⟨true, [.ty 33], [3, 25], sLen⟩ :=
  vars_Length_meets (kf hK 14 (by decide)) _ _ (M_nestCheck (kf hK 24 (by decide)) (kf hK 43 (by decide)) (kf hK 67 (by decide))) (M_vlen hK) _ fun a r h => by
    unfold sLen at h
    split at h
    · rename_i h3; cases h; exact ⟨0, Length_walk a h3⟩
    · cases h
theorem M_refLength {K : CallT} (hK : KFree K) : Meets U (callV C K) 15 ⟨true, [.ty 33], [3, 3], sLen⟩ :=
  ref30_Length_meets (kf hK 15 (by decide)) _ _ (M_refCheck (kf hK 27 (by decide)) (kf hK 33 (by decide)) (kf hK 46 (by decide)) (kf hK 47 (by decide)) (kf hK 54 (by decide))) (M_Long (kf hK 32 (by decide))) _ fun a r h => by
    unfold sLen at h
    split at h
    · rename_i h3; cases h; exact ⟨0, Length_walk a h3⟩
    · cases h
/-! spaces -/
theorem spaces_run {R : Type} (G : List Val → (List Val → Option R) → Option R) (kx : List Val → Option R)
    (hG : ∀ l k, G l k = match l with
      | [] => kx []
      | v :: r => if sp v then k r else kx (v :: r)) : ∀ (l : List Val) (n : Nat), l.length < n → loop1 G n l = kx (spL l)
  | [], n, h => by
    obtain ⟨n, rfl⟩ : ∃ m, n = m + 1 := ⟨n - 1, by omega⟩
    rw [loop1_succ, hG]; rfl
  | v :: r, n, h => by
    obtain ⟨n, rfl⟩ : ∃ m, n = m + 1 := ⟨n - 1, by omega⟩
    rw [loop1_succ, hG, spL]
    simp only
    by_cases hv : sp v = true
    · rw [if_pos hv, if_pos hv]
      exact spaces_run G kx hG r n (by simp at h; omega)
    · rw [if_neg hv, if_neg hv]
theorem trR_run {R : Type} (G : List Val → (List Val → Option R) → Option R) (kx : List Val → Option R)
    (h0 : ∀ k, G [] k = kx []) (hG : ∀ l v k, l.length < 2 ^ 62 → G (l ++ [v]) k = if sp v then k l else kx (l ++ [v])) : ∀ (m l : List Val) (n : Nat), l.reverse = m → l.length < n → l.length < 2 ^ 62 → loop1 G n l = kx (trR l)
  | [], l, n, e, h, hb => by
    have : l = [] := by simpa using e
    subst this
    obtain ⟨n, rfl⟩ : ∃ m, n = m + 1 := ⟨n - 1, by omega⟩
    rw [loop1_succ, h0]; rfl
  | v :: r, l, n, e, h, hb => by
    have : l = r.reverse ++ [v] := by rw [← List.reverse_reverse l, e]; simp
    subst this
    simp at hb h
    obtain ⟨n, rfl⟩ : ∃ m, n = m + 1 := ⟨n - 1, by omega⟩
    rw [loop1_succ, hG _ _ _ (by simp; omega)]
    have e2 : trR (r.reverse ++ [v]) = if sp v then trR r.reverse else r.reverse ++ [v] := by
      unfold trR
      rw [e, spL]
      split
      · simp
      · simp
    rw [e2]
    by_cases hv : sp v = true
    · rw [if_pos hv, if_pos hv]
      exact trR_run G kx h0 hG r r.reverse n (by simp) (by simp; omega) (by simp; omega)
    · rw [if_neg hv, if_neg hv]
theorem getI_0 {v : Val} {r : List Val} : getI (v :: r) 0 = some v := rfl
theorem subL_tail {v : Val} {r : List Val} : subL (v :: r) 1 ((v :: r).length : Int) = some r := by
  unfold subL
  rw [if_pos (by simp; omega)]
  simp
theorem pos_cons {v : Val} {r : List Val} : decide (((v :: r).length : Int) > 0) = true := by simp
theorem getI_last {l : List Val} {v : Val} : getI (l ++ [v]) (l.length : Int) = some v := getI_nat (by simp)
theorem subL_init {l : List Val} {v : Val} : subL (l ++ [v]) 0 (l.length : Int) = some l := by
  unfold subL
  rw [if_pos (by simp; omega)]
  simp
theorem spaces_walk (l : List Val) : vars_spaces (l.length + 1) l = some (spL l) := by
  unfold vars_spaces
  refine spaces_run _ (fun z => some z) ?_ l _ (Nat.lt_succ_self _)
  intro l k
  cases l with
  | nil => rfl
  | cons v r =>
    simp only [vars_spaces_L0, pos_cons, cond_true, getI_0, Option.bind_some, subL_tail, sp]
    exact Bool.cond_eq_ite _ _ _
theorem M_spaces {K : CallT} (hK : KFree K) : Meets U (callV C K) 71 ⟨true, [.ty 33], [33], fun l => some (spL l)⟩ :=
  vars_spaces_meets (kf hK 71 (by decide)) _ fun a r h => by cases h; exact ⟨_, spaces_walk a⟩
def sTrim (l : List Val) : Option (List Val) := if totL l ≤ B then some (trL l) else none
theorem sTrim_of {l : List Val} (h : totL l ≤ B) : sTrim l = some (trL l) := if_pos h
theorem last_step {l : List Val} {v : Val} (h : l.length < 2 ^ 62) : IntKind.i64.wrap (((l ++ [v]).length : Int) - 1) = (l.length : Int) := by
  rw [wrap_id (by simp <;> omega) (by simp <;> omega)]; simp only [List.length_append, List.length_cons, List.length_nil]; omega
theorem pos_snoc {v : Val} {r : List Val} : decide (((r ++ [v]).length : Int) > 0) = true := by simp
theorem trim_walk (l : List Val) (h : totL l ≤ B) : vars_trim (fun l => some (spL l)) ((spL l).length + 1) l = some (trL l) := by
  have hB : B = 2 ^ 36 := rfl
  unfold vars_trim
  simp only [Option.bind_some]
  have h1 := len_tot (spL l)
  have h2 := tot_sp l
  refine trR_run _ (fun z => some z) ?_ ?_ _ (spL l) _ rfl (Nat.lt_succ_self _) (by omega)
  · intro k; rfl
  · intro l v k hl
    simp only [vars_trim_L0, pos_snoc, cond_true, last_step hl, getI_last, Option.bind_some, subL_init, sp]
    exact Bool.cond_eq_ite _ _ _
theorem M_trim {K : CallT} (hK : KFree K) : Meets U (callV C K) 72 ⟨true, [.ty 33], [33], sTrim⟩ :=
  vars_trim_meets (kf hK 72 (by decide)) _ (M_spaces hK) _ fun a r h => by
    unfold sTrim at h
    split at h
    · rename_i h3; cases h; exact ⟨_, trim_walk a h3⟩
    · cases h
theorem Trimmed_walk (l : List Val) (h : totL l ≤ B) : ref04_Trimmed (l.length + 1) l = some (trL l) := by
  have hB : B = 2 ^ 36 := rfl
  unfold ref04_Trimmed
  have h1 := len_tot (spL l)
  have h2 := tot_sp l
  have h3 : (spL l).length ≤ l.length := by
    clear h h1 h2
    induction l with
    | nil => exact Nat.le_refl _
    | cons v r ih => unfold spL; split <;> simp <;> omega
  refine (spaces_run _ (fun z1 => loop1 (ref04_Trimmed_L2 (l.length + 1) [] fun z2 => some z2) (l.length + 1) z1) ?_ l _ (Nat.lt_succ_self _)).trans ?_
  · intro l k
    cases l with
    | nil => rfl
    | cons v r =>
      simp only [ref04_Trimmed_L0, pos_cons, cond_true, getI_0, Option.bind_some, subL_tail, sp]
      exact Bool.cond_eq_ite _ _ _
  · refine trR_run _ (fun z => some z) ?_ ?_ _ (spL l) _ rfl (by omega) (by omega)
    · intro k; rfl
    · intro l v k hl
      simp only [ref04_Trimmed_L2, pos_snoc, cond_true, last_step hl, getI_last, Option.bind_some, subL_init, sp]
      exact Bool.cond_eq_ite _ _ _
theorem M_Trimmed {K : CallT} (hK : KFree K) : Meets U (callV C K) 76 ⟨true, [.ty 33], [33], sTrim⟩ :=
  ref04_Trimmed_meets (kf hK 76 (by decide)) _ fun a r h => by
    unfold sTrim at h
    split at h
    · rename_i h3; cases h; exact ⟨_, Trimmed_walk a h3⟩
    · cases h
end Go.Tev.S1
namespace Go.Tev.S1
open Go.Abs Go.Proofs
def sParts (v : Val) : Option (List UInt8 × List Val × Bool) := if v.tot ≤ B then some (partsV v.l) else none
theorem sParts_of {v : Val} (h : v.tot ≤ B) : sParts v = some (partsV v.l) := if_pos h
theorem nil_len {α : Type} : ((([] : List α).length : Int) == 0) = true := rfl
theorem cons_len {α : Type} {v : α} {r : List α} : (((v :: r).length : Int) == 0) = false := by simp; omega
theorem parts_walk (v : Val) (h : v.tot ≤ B) : vars_parts (fun l => some (spL l)) (fun p => some (customT p)) sTrim 0 v = some (partsV v.l) := by
  have he := v.tot_eq
  have hs := tot_sp v.l
  unfold vars_parts partsV
  simp only [Option.bind_some]
  cases e : spL v.l with
  | nil => rfl
  | cons x r =>
    rw [e] at hs
    simp only [totL] at hs
    have hs2 := tot_sp r
    simp only [cons_len, Bool.not_false, cond_true, cond_false, getI_0, Option.bind_some, subL_tail]
    by_cases h1 : x.tok.k = 1
    · have e1 : (x.tok.k != 1) = false := by simpa using h1
      by_cases h2 : customT x.tok.t = true
      · rw [if_pos ⟨h1, h2⟩]
        simp only [e1, h2, Bool.not_false, Bool.not_true, cond_true, cond_false, Option.bind_some]
        cases e3 : spL r with
        | nil => rfl
        | cons y s =>
          rw [e3] at hs2
          simp only [totL] at hs2
          simp only [cons_len, cond_false, getI_0, Option.bind_some, subL_tail, sTrim_of (show totL s ≤ B by omega)]
          by_cases h4 : y.tok.k = 18
          · rw [if_pos h4, h4]; rfl
          · have e4 : (y.tok.k == 18) = false := by simpa using h4
            rw [if_neg h4, e4]; rfl
      · rw [if_neg (fun hh => h2 hh.2)]
        have h2' : customT x.tok.t = false := (Bool.not_eq_true _).mp h2
        simp only [e1, h2', Bool.not_false, cond_true, cond_false, Option.bind_some]
    · have e1 : (x.tok.k != 1) = true := by simpa using h1
      rw [if_neg (fun hh => h1 hh.1)]
      simp only [e1, Bool.not_true, cond_true, cond_false, Option.bind_some]
theorem M_parts {K : CallT} (hK : KFree K) : Meets U (callV C K) 56 ⟨true, [.ty 60], [9, 33, 4], sParts⟩ :=
  vars_parts_meets (kf hK 56 (by decide)) _ _ _ (M_spaces hK) (M_Custom hK) (M_trim hK) _ fun a r h => by
    unfold sParts at h
    split at h
    · rename_i h3; cases h; exact ⟨0, parts_walk a h3⟩
    · cases h
theorem idx_run {R : Type} (l : List Val) (G : Int → (Int → Option R) → Option R) (kx : Int → Option R)
    (hG : ∀ (i : Nat) v k, l[i]? = some v → i < l.length → G (i : Int) k = if sp v then k ((i + 1 : Nat) : Int) else kx (i : Int)) (h0 : ∀ k, G (l.length : Int) k = kx (l.length : Int)) :
    ∀ (m : List Val) (i n : Nat), l.drop i = m → i ≤ l.length → m.length < n → ∃ j, i ≤ j ∧ j ≤ l.length ∧ l.drop j = spL m ∧ loop1 G n (i : Int) = kx (j : Int)
  | [], i, n, e, hi, hn => by
    obtain ⟨n, rfl⟩ : ∃ m, n = m + 1 := ⟨n - 1, by omega⟩
    have : i = l.length := by
      have := congrArg List.length e
      simp at this; omega
    subst this
    exact ⟨_, Nat.le_refl _, Nat.le_refl _, e, by rw [loop1_succ, h0]⟩
  | v :: r, i, n, e, hi, hn => by
    obtain ⟨n, rfl⟩ : ∃ m, n = m + 1 := ⟨n - 1, by omega⟩
    have hv : l[i]? = some v := by
      have := congrArg (fun x => x[0]?) e
      simpa using this
    have hlt : i < l.length := (List.getElem?_eq_some_iff.1 hv).1
    have hr' : l.drop (i + 1) = r := by rw [← List.drop_drop, e]; rfl
    rw [loop1_succ, hG i v _ hv hlt, spL]
    by_cases hs : sp v = true
    · rw [if_pos hs, if_pos hs]
      obtain ⟨j, h1, h2, h3, h4⟩ := idx_run l G kx hG h0 r (i + 1) n hr' (by omega) (by simp at hn; omega)
      exact ⟨j, by omega, h2, h3, h4⟩
    · rw [if_neg hs, if_neg hs]
      exact ⟨i, Nat.le_refl _, hi, e, rfl⟩
theorem drop_end {l : List Val} {j : Nat} (hj : j ≤ l.length) (h : l.drop j = []) : (j : Int) = (l.length : Int) := by
  have := congrArg List.length h
  simp at this; omega
theorem drop_cons {l : List Val} {j : Nat} {x : Val} {r : List Val} (h : l.drop j = x :: r) : l[j]? = some x ∧ j < l.length ∧ l.drop (j + 1) = r := by
  have hv : l[j]? = some x := by
    have := congrArg (fun x => x[0]?) h
    simpa using this
  exact ⟨hv, (List.getElem?_eq_some_iff.1 hv).1, by rw [← List.drop_drop, h]; rfl⟩
theorem Named_walk (v : Val) (h : v.tot ≤ B) : ref30_Named (fun p => some (customT p)) sTrim (v.l.length + 1) v = some (partsV v.l) := by
  have hB : B = 2 ^ 36 := rfl
  have he := v.tot_eq
  have hs := tot_sp v.l
  have hl := len_tot v.l
  unfold ref30_Named
  have step0 : ∀ (kx : Int → Option (List UInt8 × List Val × Bool)), ∃ j, j ≤ v.l.length ∧ v.l.drop j = spL v.l ∧ loop1 (ref30_Named_L0 (fun p => some (customT p)) sTrim (v.l.length + 1) [] [] false v.l kx) (v.l.length + 1) 0 = kx (j : Int) := by
    intro kx
    obtain ⟨j, h1, h2, h3, h4⟩ := idx_run v.l (ref30_Named_L0 (fun p => some (customT p)) sTrim (v.l.length + 1) [] [] false v.l kx) kx (by
      intro i w k hw hi
      simp (disch := omega) only [ref30_Named_L0, dlt hi, cond_true, getI_nat hw, Option.bind_some, wrap_id, sp]
      exact Bool.cond_eq_ite _ _ _) (by
      intro k
      simp only [ref30_Named_L0, dlt0, cond_false, Option.bind_some]) v.l 0 (v.l.length + 1) rfl (Nat.zero_le _) (Nat.lt_succ_self _)
    exact ⟨j, h2, h3, h4⟩
  have step2 : ∀ (i : Nat) (t : List UInt8) (kx : Int → Option (List UInt8 × List Val × Bool)), i ≤ v.l.length → ∃ j, j ≤ v.l.length ∧ v.l.drop j = spL (v.l.drop i) ∧ loop1 (ref30_Named_L2 (fun p => some (customT p)) sTrim (v.l.length + 1) [] [] false v.l t kx) (v.l.length + 1) (i : Int) = kx (j : Int) := by
    intro i t kx hi
    obtain ⟨j, h1, h2, h3, h4⟩ := idx_run v.l (ref30_Named_L2 (fun p => some (customT p)) sTrim (v.l.length + 1) [] [] false v.l t kx) kx (by
      intro i w k hw hi
      simp (disch := omega) only [ref30_Named_L2, dlt hi, cond_true, getI_nat hw, Option.bind_some, wrap_id, sp]
      exact Bool.cond_eq_ite _ _ _) (by
      intro k
      simp only [ref30_Named_L2, dlt0, cond_false, Option.bind_some]) (v.l.drop i) i (v.l.length + 1) rfl hi (by simp; omega)
    exact ⟨j, h2, h3, h4⟩
  obtain ⟨j, hj, hd, hw⟩ := step0 _
  rw [hw]
  unfold partsV
  rw [← hd] at hs ⊢
  cases e : v.l.drop j with
  | nil =>
    rw [drop_end hj e]
    simp only [beq_self_eq_true, Bool.not_true, cond_true, cond_false, Option.bind_some]
  | cons x r =>
    rw [e] at hs
    simp only [totL] at hs
    obtain ⟨hx, hlt, hr⟩ := drop_cons e
    have ej : ((j : Int) == (v.l.length : Int)) = false := by simp; omega
    simp only [ej, Bool.not_false, cond_true, cond_false, getI_nat hx, Option.bind_some]
    by_cases h1 : x.tok.k = 1
    · have e1 : (x.tok.k != 1) = false := by simpa using h1
      by_cases h2 : customT x.tok.t = true
      · rw [if_pos ⟨h1, h2⟩]
        simp only [e1, h2, Bool.not_false, Bool.not_true, cond_true, cond_false, Option.bind_some]
        rw [wrap_add1 (by omega)]
        obtain ⟨i, hi, hd2, hw2⟩ := step2 (j + 1) x.tok.t _ (by omega)
        rw [hw2, ← hr, ← hd2]
        have hs2 := tot_sp r
        rw [← hr, ← hd2] at hs2
        cases e3 : v.l.drop i with
        | nil =>
          rw [drop_end hi e3]
          simp only [beq_self_eq_true, cond_true]
        | cons y s =>
          rw [e3, hr] at hs2
          simp only [totL] at hs2
          obtain ⟨hy, hlt2, hr2⟩ := drop_cons e3
          have ei : ((i : Int) == (v.l.length : Int)) = false := by simp; omega
          have hsub : subL v.l (IntKind.i64.wrap ((i : Int) + 1)) (v.l.length : Int) = some s := by
            rw [wrap_add1 (by omega)]
            unfold subL
            rw [if_pos (by omega)]
            simp [hr2]
          simp only [ei, cond_false, getI_nat hy, Option.bind_some, hsub, sTrim_of (show totL s ≤ B by omega)]
          by_cases h4 : y.tok.k = 18
          · have e4 : (y.tok.k != 18) = false := by simpa using h4
            rw [if_pos h4, e4]; rfl
          · have e4 : (y.tok.k != 18) = true := by simpa using h4
            rw [if_neg h4, e4]; rfl
      · rw [if_neg (fun hh => h2 hh.2)]
        have h2' : customT x.tok.t = false := (Bool.not_eq_true _).mp h2
        simp only [e1, h2', Bool.not_false, cond_true, cond_false, Option.bind_some]
    · have e1 : (x.tok.k != 1) = true := by simpa using h1
      rw [if_neg (fun hh => h1 hh.1)]
      simp only [e1, Bool.not_true, cond_true, cond_false, Option.bind_some]
theorem M_Named {K : CallT} (hK : KFree K) : Meets U (callV C K) 61 ⟨true, [.ty 60], [9, 33, 4], sParts⟩ :=
  ref30_Named_meets (kf hK 61 (by decide)) _ _ (M_refCustom hK) (M_Trimmed hK) _ fun a r h => by
    unfold sParts at h
    split at h
    · rename_i h3; cases h; exact ⟨_, Named_walk a h3⟩
    · cases h
end Go.Tev.S1
namespace Go.Tev
open Go.Abs
/-- how long a value may be -/
abbrev V : Nat := 2 ^ 24
abbrev Lk := List UInt8 → Option (List Val)
theorem tot_pos (v : Val) (r : List Val) : totL r < totL (v :: r) := by
  simp only [totL, Val.tot_eq]; omega
theorem tot_in (v : Val) (r : List Val) : totL v.l < totL (v :: r) := by
  simp only [totL, Val.tot_eq]; omega
theorem tot_parts (v : Val) (r : List Val) : totL (partsV v.l).2.1 < totL (v :: r) :=
  Nat.lt_of_le_of_lt (parts_tot v.l) (tot_in v r)
def addO (a b : Option Nat) : Option Nat := match a, b with
  | some m, some n => some (m + n)
  | _, _ => none
theorem addO_some {a b : Option Nat} {n : Nat} (h : addO a b = some n) : ∃ x y, a = some x ∧ b = some y ∧ n = x + y := by
  unfold addO at h
  split at h
  · exact ⟨_, _, rfl, rfl, (Option.some.inj h).symm⟩
  · cases h
/-- how long a list is after replacing -/
def meaL (lk : Lk) : List Val → Option Nat
  | [] => some 0
  | v :: r => addO (if v.ref then (match lk (partsV v.l).1 with
      | some x => some (totL x)
      | none => if (partsV v.l).2.2 then meaL lk (partsV v.l).2.1 else none)
    else addO (some (1 + v.tok.t.length + v.tok.u.length)) (meaL lk v.l)) (meaL lk r)
termination_by l => totL l
decreasing_by
  · exact tot_parts v r
  · exact tot_in v r
  · exact tot_pos v r
def meaV (lk : Lk) (v : Val) : Option Nat := if v.ref then (match lk (partsV v.l).1 with
      | some x => some (totL x)
      | none => if (partsV v.l).2.2 then meaL lk (partsV v.l).2.1 else none)
    else addO (some (1 + v.tok.t.length + v.tok.u.length)) (meaL lk v.l)
theorem meaV_no {lk : Lk} {v : Val} (h : v.ref = false) : meaV lk v = addO (some (1 + v.tok.t.length + v.tok.u.length)) (meaL lk v.l) := by
  unfold meaV; rw [if_neg (by rw [h]; decide)]
theorem meaV_val {lk : Lk} {v : Val} {x : List Val} (h : v.ref = true) (h2 : lk (partsV v.l).1 = some x) : meaV lk v = some (totL x) := by
  unfold meaV; rw [if_pos h, h2]
theorem meaV_has {lk : Lk} {v : Val} (h : v.ref = true) (h2 : lk (partsV v.l).1 = none) (h3 : (partsV v.l).2.2 = true) : meaV lk v = meaL lk (partsV v.l).2.1 := by
  unfold meaV; rw [if_pos h, h2]; simp only [h3, if_true]
theorem meaV_not {lk : Lk} {v : Val} (h : v.ref = true) (h2 : lk (partsV v.l).1 = none) (h3 : (partsV v.l).2.2 = false) : meaV lk v = none := by
  unfold meaV; rw [if_pos h, h2]; simp [h3]
theorem meaL_nil (lk : Lk) : meaL lk [] = some 0 := by rw [meaL]
theorem meaL_cons (lk : Lk) (v : Val) (r : List Val) : meaL lk (v :: r) = addO (meaV lk v) (meaL lk r) := by rw [meaL]; rfl
theorem addO_assoc (a b c : Option Nat) : addO (addO a b) c = addO a (addO b c) := by
  cases a <;> cases b <;> cases c <;> simp [addO, Nat.add_assoc]
theorem addO_zero (a : Option Nat) : addO (some 0) a = a := by cases a <;> simp [addO]
theorem addO_zero' (a : Option Nat) : addO a (some 0) = a := by cases a <;> simp [addO]
theorem meaL_append (lk : Lk) (a b : List Val) : meaL lk (a ++ b) = addO (meaL lk a) (meaL lk b) := by
  induction a with
  | nil => rw [meaL_nil, addO_zero]; rfl
  | cons v a ih => rw [List.cons_append, meaL_cons, meaL_cons, ih, addO_assoc]
theorem meaL_snoc (lk : Lk) (a : List Val) (v : Val) : meaL lk (a ++ [v]) = addO (meaL lk a) (meaV lk v) := by
  rw [meaL_append, meaL_cons, meaL_nil, addO_zero']
/-- what stands there after replacing -/
def putL (lk : Lk) : List Val → List Val
  | [] => []
  | v :: r => (if v.ref then (match lk (partsV v.l).1 with
      | some x => x
      | none => putL lk (partsV v.l).2.1)
    else [Val.mk v.tok (putL lk v.l)]) ++ putL lk r
termination_by l => totL l
decreasing_by
  · exact tot_parts v r
  · exact tot_in v r
  · exact tot_pos v r
def putV (lk : Lk) (v : Val) : List Val := if v.ref then (match lk (partsV v.l).1 with
      | some x => x
      | none => putL lk (partsV v.l).2.1)
    else [Val.mk v.tok (putL lk v.l)]
theorem putV_no {lk : Lk} {v : Val} (h : v.ref = false) : putV lk v = [Val.mk v.tok (putL lk v.l)] := by
  unfold putV; rw [if_neg (by rw [h]; decide)]
theorem putV_val {lk : Lk} {v : Val} {x : List Val} (h : v.ref = true) (h2 : lk (partsV v.l).1 = some x) : putV lk v = x := by
  unfold putV; rw [if_pos h, h2]
theorem putV_not {lk : Lk} {v : Val} (h : v.ref = true) (h2 : lk (partsV v.l).1 = none) : putV lk v = putL lk (partsV v.l).2.1 := by
  unfold putV; rw [if_pos h, h2]
theorem putL_nil (lk : Lk) : putL lk [] = [] := by rw [putL]
theorem putL_cons (lk : Lk) (v : Val) (r : List Val) : putL lk (v :: r) = putV lk v ++ putL lk r := by rw [putL]; rfl
theorem putL_append (lk : Lk) (a b : List Val) : putL lk (a ++ b) = putL lk a ++ putL lk b := by
  induction a with
  | nil => rw [putL_nil]; rfl
  | cons v a ih => rw [List.cons_append, putL_cons, putL_cons, ih, List.append_assoc]
theorem putL_snoc (lk : Lk) (a : List Val) (v : Val) : putL lk (a ++ [v]) = putL lk a ++ putV lk v := by
  rw [putL_append, putL_cons, putL_nil, List.append_nil]
/-- induction over what measure reaches -/
theorem list_rec (P : List Val → Prop) (h0 : P []) (h1 : ∀ v r, P r → P v.l → P (partsV v.l).2.1 → P (v :: r)) : ∀ l, P l := by
  have : ∀ (n : Nat) l, totL l < n → P l := by
    intro n
    induction n with
    | zero => intro l h; omega
    | succ n ih =>
      intro l h
      cases l with
      | nil => exact h0
      | cons v r =>
        have a1 := tot_pos v r
        have a2 := tot_in v r
        have a3 := tot_parts v r
        exact h1 v r (ih _ (by omega)) (ih _ (by omega)) (ih _ (by omega))
  exact fun l => this _ l (Nat.lt_succ_self _)
theorem put_tot (lk : Lk) : ∀ l m, meaL lk l = some m → totL (putL lk l) = m := by
  refine list_rec _ ?_ ?_
  · intro m h
    rw [meaL_nil] at h
    cases h
    rw [putL_nil]; rfl
  · intro v r h1 h2 h3 m h
    rw [meaL_cons] at h
    obtain ⟨x, y, hx, hy, rfl⟩ := addO_some h
    rw [putL_cons, totL_append, h1 y hy]
    congr 1
    unfold meaV at hx
    unfold putV
    split at hx
    · rename_i hv
      rw [if_pos hv]
      split at hx
      · rename_i z hz
        exact Option.some.inj hx
      · rename_i hz
        split at hx
        · exact h3 x hx
        · cases hx
    · rename_i hv
      rw [if_neg hv]
      obtain ⟨a, b, ha, hb, rfl⟩ := addO_some hx
      cases ha
      simp only [totL, Val.tot, h2 b hb]
      rfl
theorem mea_le (lk : Lk) (W : Nat) (hW : 1 ≤ W) (hlk : ∀ n x, lk n = some x → totL x ≤ W) : ∀ l m, meaL lk l = some m → m ≤ totL l * W := by
  refine list_rec _ ?_ ?_
  · intro m h
    rw [meaL_nil] at h
    cases h
    omega
  · intro v r h1 h2 h3 m h
    rw [meaL_cons] at h
    obtain ⟨x, y, hx, hy, rfl⟩ := addO_some h
    have hr := h1 y hy
    simp only [totL, Nat.add_mul]
    suffices x ≤ v.tot * W by omega
    have ht : 1 * W ≤ v.tot * W := Nat.mul_le_mul_right _ (by rw [Val.tot_eq]; omega)
    unfold meaV at hx
    split at hx
    · split at hx
      · rename_i z hz
        have := hlk _ _ hz
        cases hx
        omega
      · split at hx
        · have h4 := h3 x hx
          have h5 : totL (partsV v.l).2.1 * W ≤ v.tot * W := Nat.mul_le_mul_right _ (by have := parts_tot v.l; rw [Val.tot_eq]; omega)
          omega
        · cases hx
    · obtain ⟨a, b, ha, hb, rfl⟩ := addO_some hx
      cases ha
      have h4 := h2 b hb
      rw [Val.tot_eq, Nat.add_mul (1 + v.tok.t.length + v.tok.u.length)]
      have h5 : (1 + v.tok.t.length + v.tok.u.length) * 1 ≤ (1 + v.tok.t.length + v.tok.u.length) * W := Nat.mul_le_mul_left _ hW
      omega
theorem put_same (lk : Lk) : ∀ l, hasvL l = false → putL lk l = l := by
  refine list_rec _ ?_ ?_
  · intro h; exact putL_nil lk
  · intro v r h1 h2 h3 h
    rw [hasvL, Bool.or_eq_false_iff, Val.hasv_eq, Bool.or_eq_false_iff] at h
    rw [putL_cons, h1 h.2, putV, if_neg (by rw [h.1.1]; decide), h2 h.1.2, Val.eta]
    rfl
theorem mea_same (lk : Lk) : ∀ l, hasvL l = false → meaL lk l = some (totL l) := by
  refine list_rec _ ?_ ?_
  · intro h; exact meaL_nil lk
  · intro v r h1 h2 h3 h
    rw [hasvL, Bool.or_eq_false_iff, Val.hasv_eq, Bool.or_eq_false_iff] at h
    rw [meaL_cons, h1 h.2, meaV, if_neg (by rw [h.1.1]; decide), h2 h.1.2]
    simp only [addO, totL, Val.tot_eq]
/-! looking up -/
def lkM (m : List (List UInt8 × List Val)) : Lk := fun n => mget BEq.beq n m
def lkC : List Cus → Lk
  | [], _ => none
  | c :: r, n => if c.name == n then some c.val else lkC r n
def findI : List Cus → List UInt8 → Int → Int
  | [], _, _ => -1
  | c :: r, n, i => if c.name == n then i else findI r n (i + 1)
theorem lkM_mem {m : List (List UInt8 × List Val)} {n : List UInt8} {x : List Val} (h : lkM m n = some x) : ∃ p ∈ m, p.2 = x := by
  induction m with
  | nil => cases h
  | cons p m ih =>
    obtain ⟨k, v⟩ := p
    simp only [lkM, mget] at h
    cases e : (n == k) <;> rw [e] at h
    · obtain ⟨q, hq, hx⟩ := ih h
      exact ⟨q, List.mem_cons_of_mem _ hq, hx⟩
    · cases h
      exact ⟨_, List.mem_cons_self, rfl⟩
theorem lkC_mem {c : List Cus} {n : List UInt8} {x : List Val} (h : lkC c n = some x) : ∃ p ∈ c, p.val = x := by
  induction c with
  | nil => cases h
  | cons p m ih =>
    simp only [lkC] at h
    split at h
    · cases h; exact ⟨_, List.mem_cons_self, rfl⟩
    · obtain ⟨q, hq, hx⟩ := ih h
      exact ⟨q, List.mem_cons_of_mem _ hq, hx⟩
theorem findI_spec (c : List Cus) (n : List UInt8) : ∀ (i : Nat), (findI c n i = -1 ∧ lkC c n = none) ∨ (∃ j x, findI c n i = ((i + j : Nat) : Int) ∧ c[j]? = some x ∧ lkC c n = some x.val) := by
  induction c with
  | nil => intro i; exact .inl ⟨rfl, rfl⟩
  | cons p c ih =>
    intro i
    simp only [findI, lkC]
    by_cases h : (p.name == n) = true
    · rw [if_pos h, if_pos h]
      exact .inr ⟨0, p, rfl, rfl, rfl⟩
    · rw [if_neg h, if_neg h]
      rcases ih (i + 1) with ⟨h1, h2⟩ | ⟨j, x, h1, h2, h3⟩
      · exact .inl ⟨h1, h2⟩
      · refine .inr ⟨j + 1, x, ?_, h2, h3⟩
        have : (i : Int) + 1 = ((i + 1 : Nat) : Int) := rfl
        rw [this, h1]
        omega
end Go.Tev
