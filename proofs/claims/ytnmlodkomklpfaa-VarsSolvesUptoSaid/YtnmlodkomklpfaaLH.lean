/- A certified evaluator for the walked functions, and their contracts, for the laws of the variables. -/
import Derived.Test.YtnmlodkomklpfaaLE
import Derived.Test.YtnmlodkomklpfaaChecked
import Derived.KernelRfl
import Derived.Test.YtnmlodkomklpfaaLG
set_option linter.unusedVariables false
set_option linter.unusedSimpArgs false
namespace Go.Abs
open Go.Proofs
def ann : FuncId → FA
  | 2 => ⟨1, [], [], [], [0], []⟩
  | 3 => ⟨42, [0, 2, 3, 4, 5, 6, 7, 9], [], [], [9, 11, 14, 19, 24, 32, 34, 40], []⟩
  | 4 => ⟨91, [0, 1, 4, 5, 6, 7, 8, 9, 10, 11, 12, 13, 14, 15, 16, 17, 23], [], [], [19, 22, 25, 28, 33, 38, 43, 49, 55, 69, 79, 89], []⟩
  | 5 => ⟨45, [0, 2, 3, 4, 12, 29], [], [], [20, 36], []⟩
  | 6 => ⟨27, [0, 2, 3, 4, 8], [3], [], [22], []⟩
  | 7 => ⟨28, [0, 2, 3, 5, 6, 9, 12, 13, 14, 15, 16, 23], [], [], [11, 21, 27], []⟩
  | 8 => ⟨29, [0, 2, 3, 4, 5, 8, 11, 15, 25], [], [], [10, 23, 28], []⟩
  | 9 => ⟨42, [0, 1, 4, 5, 10, 14, 41], [], [], [39], []⟩
  | 10 => ⟨35, [0, 2, 4, 12, 13, 14, 15, 16, 33], [], [], [10, 21, 26, 31], []⟩
  | 11 => ⟨42, [0, 2, 3, 11, 15, 41], [], [], [9, 23, 31, 39], []⟩
  | 12 => ⟨11, [0, 2], [], [], [4, 8], []⟩
  | 13 => ⟨27, [0, 2, 3, 4, 8], [3], [], [22], []⟩
  | 14 => ⟨12, [0, 2, 3, 4, 8], [], [], [6, 11], []⟩
  | 15 => ⟨12, [0, 2, 3, 4, 8], [], [], [6, 11], []⟩
  | 16 => ⟨18, [0, 2, 3, 4, 5, 9], [], [], [7, 14, 16, 17], []⟩
  | 17 => ⟨13, [0, 2, 3, 4, 8], [], [], [6, 11, 12], []⟩
  | 18 => ⟨24, [0, 1, 4, 5, 6, 7, 11, 16], [], [], [9, 14, 20, 21], [21]⟩
  | 19 => ⟨23, [0, 1, 4, 5, 6, 7, 11, 16], [], [], [9, 14, 20], []⟩
  | 20 => ⟨26, [0, 1, 4, 5, 10, 14, 25], [], [], [], []⟩
  | 21 => ⟨42, [0, 1, 4, 5, 10, 14, 41], [], [], [39], []⟩
  | 22 => ⟨47, [0, 1, 4, 5, 6, 15], [], [], [43], []⟩
  | 23 => ⟨25, [0, 2, 3, 5, 6, 7, 8, 9, 21], [], [], [14], []⟩
  | 24 => ⟨17, [0, 2, 3, 6, 10, 14], [], [], [5], []⟩
  | 25 => ⟨118, [0, 2, 3, 4, 5, 6, 7, 9, 11, 12, 13, 14, 16, 17, 18, 19, 21, 22, 23, 30, 32, 36, 39, 40, 41, 42, 53, 60, 62, 71, 72, 89, 95, 96, 97, 98, 108], [19], [], [25, 28, 58, 80, 87], [80]⟩
  | 26 => ⟨35, [0, 2, 3, 7, 34], [], [], [15], []⟩
  | 27 => ⟨13, [0, 2, 5, 9, 12], [], [], [4, 7, 11], []⟩
  | 28 => ⟨100, [0, 2, 3, 4, 5, 6, 7, 8, 9, 10, 11, 12, 13, 22, 35, 38, 51, 69, 89], [], [], [15, 80, 87, 98], []⟩
  | 29 => ⟨5, [0, 2], [], [], [4], []⟩
  | 30 => ⟨30, [0, 2, 3, 5, 6, 7, 8, 9], [], [], [25], []⟩
  | 31 => ⟨33, [0, 2, 3, 4, 8, 32], [], [], [22, 31], []⟩
  | 32 => ⟨37, [0, 2, 3, 4, 8], [], [], [33], []⟩
  | 33 => ⟨29, [0, 2, 3, 4, 8, 18], [], [], [17, 25], []⟩
  | 34 => ⟨32, [0, 1, 5, 6, 9, 10, 11, 12, 16, 24], [], [], [16, 19, 30], []⟩
  | 35 => ⟨9, [0, 2, 3], [], [], [5, 7], []⟩
  | 36 => ⟨4, [0, 1, 2], [], [1], [], []⟩
  | 37 => ⟨72, [0, 2, 3, 4, 5, 6, 10, 27, 44, 53], [3], [47], [], []⟩
  | 38 => ⟨43, [0, 2, 3, 4, 5, 11, 18, 29], [3], [], [18, 24, 40], []⟩
  | 39 => ⟨31, [0, 1, 4, 5, 6, 7, 8, 12, 15, 28], [], [], [11, 20, 24, 26], [11, 24]⟩
  | 40 => ⟨20, [0, 2, 3, 5, 7, 8, 9, 10], [], [], [], []⟩
  | 41 => ⟨33, [0, 1, 4, 5, 6, 7, 8, 9, 17, 23, 30], [], [], [13, 22, 26, 28], []⟩
  | 42 => ⟨15, [0, 2], [], [], [4], []⟩
  | 43 => ⟨71, [0, 1, 4, 5, 7, 8, 9, 10, 11, 12, 13, 42, 45], [], [], [23, 49], []⟩
  | 44 => ⟨52, [0, 2, 3, 5, 6, 8, 9, 10, 12, 13, 14, 15, 31, 32, 33, 34], [], [3, 9, 10], [28, 42], []⟩
  | 45 => ⟨16, [0, 2], [], [], [], []⟩
  | 46 => ⟨43, [0, 2, 3, 4, 5, 9, 28], [3], [], [26, 35], []⟩
  | 47 => ⟨59, [0, 1, 4, 5, 6, 10, 58], [], [], [19, 55], []⟩
  | 48 => ⟨90, [0, 2, 3, 4, 5, 6, 7, 8, 9, 10, 11, 18, 35, 45, 54, 59, 64, 82], [], [], [31, 43], []⟩
  | 49 => ⟨48, [0, 1, 3, 4, 5, 6, 10, 26, 42], [5], [], [], []⟩
  | 50 => ⟨9, [0, 1, 4], [], [], [7], []⟩
  | 51 => ⟨19, [0, 1, 2], [], [], [11, 17], []⟩
  | 52 => ⟨30, [0, 2, 3, 4, 5, 8, 9, 10, 11, 20], [], [], [], []⟩
  | 53 => ⟨33, [0, 2, 3, 4, 10, 24], [], [], [], []⟩
  | 54 => ⟨11, [0, 2, 3, 4, 6, 9], [], [], [], []⟩
  | 55 => ⟨34, [0, 1, 2, 3], [], [], [], []⟩
  | 56 => ⟨54, [0, 1, 2, 3, 4, 5, 6, 29, 38, 43], [], [], [9, 27, 37, 53], []⟩
  | 57 => ⟨5, [0, 2], [], [], [4], []⟩
  | 58 => ⟨11, [0, 2], [], [], [9, 10], []⟩
  | 59 => ⟨14, [0, 1, 3, 5, 7, 13], [], [], [12], []⟩
  | 60 => ⟨14, [0, 1, 2], [], [], [11], []⟩
  | 61 => ⟨89, [0, 1, 2, 3, 4, 5, 6, 7, 22, 47, 68, 74, 82], [], [], [45, 88], []⟩
  | 62 => ⟨67, [0, 1, 4, 5, 7, 8, 9, 10, 11, 12, 13, 14, 15, 16, 17, 22, 51, 55, 61], [], [], [21, 38, 41, 54, 59], [38, 59]⟩
  | 63 => ⟨53, [0, 1, 4, 5, 7, 8, 9, 11, 12, 13, 14, 15, 16, 21, 44], [5], [], [20, 28, 34, 49], [28, 49]⟩
  | 64 => ⟨96, [0, 1, 4, 5, 6, 7, 8, 9, 10, 11, 12, 13, 14, 15, 19, 27, 39, 73, 83, 91], [], [], [26, 35, 65, 71, 80, 87], []⟩
  | 65 => ⟨67, [0, 1, 4, 5, 6, 7, 8, 10, 14, 22, 52], [5], [], [21, 35, 44, 50, 59, 64], []⟩
  | 66 => ⟨8, [0, 1, 4], [], [], [7], []⟩
  | 67 => ⟨12, [0, 2, 3, 4, 6], [], [], [], []⟩
  | 68 => ⟨29, [0, 1, 2, 3, 5, 9, 11, 23], [], [], [28], []⟩
  | 69 => ⟨20, [0, 1, 4, 5, 9, 18], [], [], [], []⟩
  | 70 => ⟨19, [0, 1, 4, 5, 7, 8, 9, 16], [], [], [16], []⟩
  | 71 => ⟨17, [0, 2, 13], [], [], [], []⟩
  | 72 => ⟨25, [0, 2, 18], [], [], [4], []⟩
  | 73 => ⟨13, [0, 1, 2, 4, 5, 6, 7], [], [], [], []⟩
  | 74 => ⟨134, [0, 1, 2, 3, 8, 9, 10, 11, 12, 13, 14, 15, 16, 17, 18, 23, 29, 35, 50, 68, 72, 87, 113], [], [], [27, 33, 39, 46, 54, 72, 85, 92, 99, 121, 132], []⟩
  | 75 => ⟨8, [0, 2], [], [], [5, 7], []⟩
  | 76 => ⟨36, [0, 2, 13, 29], [], [], [], []⟩
  | 77 => ⟨18, [0, 1, 4], [], [], [], []⟩
  | 78 => ⟨49, [0, 1, 2, 6, 7, 12, 30], [], [], [29], []⟩
  | 79 => ⟨56, [0, 1, 2, 6, 7, 8, 9, 10, 19, 30], [], [], [26, 55], []⟩
  | 80 => ⟨65, [0, 1, 2, 6, 7, 8, 9, 10, 15, 33, 43], [], [7], [19, 36], []⟩
  | 81 => ⟨57, [0, 1, 2, 6, 7, 8, 9, 10, 11, 12, 32, 34, 49, 51, 54], [], [9], [37, 40, 43, 48], []⟩
  | 82 => ⟨32, [0, 1, 2, 6, 7, 13], [], [], [], []⟩
  | 83 => ⟨133, [0, 1, 2, 6, 7, 8, 9, 10, 14, 32, 37, 41, 61, 65, 78, 98, 103, 116], [], [], [30, 77, 115], []⟩
  | 84 => ⟨17, [0, 1, 4], [], [], [6, 9], []⟩
  | 85 => ⟨84, [0, 1, 2, 3, 8, 9, 10, 43, 59, 64], [], [], [41, 58], []⟩
  | 86 => ⟨168, [0, 1, 2, 3, 8, 9, 10, 11, 43, 60, 65, 112, 129, 134], [], [], [42, 58, 111, 127], []⟩
  | 87 => ⟨19, [0, 2, 4, 8], [], [], [], []⟩
  | 88 => ⟨25, [0, 2, 4, 8, 14], [], [], [], []⟩
  | 89 => ⟨76, [0, 1, 2, 3, 8, 9, 16, 36, 52], [], [], [35, 51], []⟩
  | 90 => ⟨7, [0, 2], [], [], [5], []⟩
  | 91 => ⟨33, [0, 2], [], [], [], []⟩
  | 92 => ⟨15, [0, 1, 2, 6], [], [], [14], []⟩
  | 93 => ⟨36, [0, 1, 2, 3, 4, 10], [], [], [16, 24, 32], []⟩
  | 94 => ⟨6, [0, 2], [], [], [], []⟩
  | 95 => ⟨28, [0, 1, 2, 3, 8, 9, 18], [], [], [18], []⟩
  | _ => ⟨0, [], [], [], [], []⟩
noncomputable def C : Ctx := ⟨Try.prog, ann⟩
def Zcf (K : Zaa) : Prop := ∀ (f : Nat) a h, f ∉ [25, 35, 44, 48, 68] → K f a h = none
theorem YaF : C.ann = ann := rfl
theorem YaO (a b : Nat) : Nat.beq a b = (a == b) := by rw [Bool.eq_iff_iff]; simp [Nat.beq_eq]
theorem Yba (a b : Nat) : Nat.ble a b = decide (a ≤ b) := by rw [Bool.eq_iff_iff]; simp [Nat.ble_eq]
theorem YaP (a b : Nat) : Nat.blt a b = decide (a < b) := by rw [Bool.eq_iff_iff]; simp [Nat.blt_eq]
theorem YaI {i n : Nat} (h : i < n) : idx (i : Int) n = some i := by unfold idx; rw [if_pos ⟨by omega, by omega⟩]; simp
end Go.Abs
namespace Go.Tev.S1
open Go.Abs Go.Proofs
theorem hC (t : Nat) (h : (U.cells t).isSome = true) : C.isAgg t = some (isT t) := by
  by_cases h2 : t = 2
  · subst h2; kernel_rfl
  by_cases h3 : t = 3
  · subst h3; kernel_rfl
  by_cases h4 : t = 4
  · subst h4; kernel_rfl
  by_cases h5 : t = 5
  · subst h5; kernel_rfl
  by_cases h9 : t = 9
  · subst h9; kernel_rfl
  by_cases h22 : t = 22
  · subst h22; kernel_rfl
  by_cases h25 : t = 25
  · subst h25; kernel_rfl
  by_cases h33 : t = 33
  · subst h33; kernel_rfl
  by_cases h40 : t = 40
  · subst h40; kernel_rfl
  by_cases h53 : t = 53
  · subst h53; kernel_rfl
  by_cases h58 : t = 58
  · subst h58; kernel_rfl
  by_cases h60 : t = 60
  · subst h60; kernel_rfl
  by_cases h61 : t = 61
  · subst h61; kernel_rfl
  by_cases h70 : t = 70
  · subst h70; kernel_rfl
  by_cases h74 : t = 74
  · subst h74; kernel_rfl
  by_cases h78 : t = 78
  · subst h78; kernel_rfl
  by_cases h81 : t = 81
  · subst h81; kernel_rfl
  by_cases h83 : t = 83
  · subst h83; kernel_rfl
  by_cases h98 : t = 98
  · subst h98; kernel_rfl
  by_cases h102 : t = 102
  · subst h102; kernel_rfl
  change (cells t).isSome = true at h
  unfold cells at h
  split at h <;> first | (exfalso; contradiction) | (cases h; done)
theorem hZ (t : Nat) (cs : List (TV U.X)) (h : U.zcells t = some cs) : ∃ z, C.zero t = some z ∧ dvL U cs = some z.cells ∧ z.cellOk = true ∧ (C.isAgg t = some true → z = .agg z.cells) := by
  by_cases h2 : t = 2
  · subst h2; cases h; exact ⟨.int .i64 0, by kernel_rfl, rfl, rfl, fun h => by rw [hC 2 rfl] at h; cases h⟩
  by_cases h3 : t = 3
  · subst h3; cases h; exact ⟨.int .i64 0, by kernel_rfl, rfl, rfl, fun h => by rw [hC 3 rfl] at h; cases h⟩
  by_cases h4 : t = 4
  · subst h4; cases h; exact ⟨.bool false, by kernel_rfl, rfl, rfl, fun h => by rw [hC 4 rfl] at h; cases h⟩
  by_cases h5 : t = 5
  · subst h5; cases h; exact ⟨.int .u8 0, by kernel_rfl, rfl, rfl, fun h => by rw [hC 5 rfl] at h; cases h⟩
  by_cases h9 : t = 9
  · subst h9; cases h; exact ⟨.str [], by kernel_rfl, rfl, rfl, fun h => by rw [hC 9 rfl] at h; cases h⟩
  by_cases h22 : t = 22
  · subst h22; cases h; exact ⟨.slc [], by kernel_rfl, rfl, rfl, fun h => by rw [hC 22 rfl] at h; cases h⟩
  by_cases h25 : t = 25
  · subst h25; cases h; exact ⟨.int .i64 0, by kernel_rfl, rfl, rfl, fun h => by rw [hC 25 rfl] at h; cases h⟩
  by_cases h33 : t = 33
  · subst h33; cases h; exact ⟨.slc [], by kernel_rfl, rfl, rfl, fun h => by rw [hC 33 rfl] at h; cases h⟩
  by_cases h40 : t = 40
  · subst h40; cases h; exact ⟨.slc [], by kernel_rfl, rfl, rfl, fun h => by rw [hC 40 rfl] at h; cases h⟩
  by_cases h53 : t = 53
  · subst h53; cases h; exact ⟨.agg [.str [], .slc []], by kernel_rfl, rfl, rfl, fun h => rfl⟩
  by_cases h58 : t = 58
  · subst h58; cases h; exact ⟨.agg [.int .u8 0, .str [], .int .i64 0, .str [], .bool false], by kernel_rfl, rfl, rfl, fun h => rfl⟩
  by_cases h60 : t = 60
  · subst h60; cases h; exact ⟨.agg [.int .u8 0, .str [], .int .i64 0, .str [], .bool false, .slc []], by kernel_rfl, rfl, rfl, fun h => rfl⟩
  by_cases h61 : t = 61
  · subst h61; cases h; exact ⟨.nilm, by kernel_rfl, rfl, rfl, fun h => by rw [hC 61 rfl] at h; cases h⟩
  by_cases h70 : t = 70
  · subst h70; cases h; exact ⟨.nilm, by kernel_rfl, rfl, rfl, fun h => by rw [hC 70 rfl] at h; cases h⟩
  by_cases h74 : t = 74
  · subst h74; cases h; exact ⟨.agg [.int .i64 0, .int .i64 0, .bool false], by kernel_rfl, rfl, rfl, fun h => rfl⟩
  by_cases h78 : t = 78
  · subst h78; cases h; exact ⟨.slc [], by kernel_rfl, rfl, rfl, fun h => by rw [hC 78 rfl] at h; cases h⟩
  by_cases h81 : t = 81
  · subst h81; cases h; exact ⟨.slc [], by kernel_rfl, rfl, rfl, fun h => by rw [hC 81 rfl] at h; cases h⟩
  by_cases h83 : t = 83
  · subst h83; cases h; exact ⟨.slc [], by kernel_rfl, rfl, rfl, fun h => by rw [hC 83 rfl] at h; cases h⟩
  by_cases h98 : t = 98
  · subst h98; cases h; exact ⟨.nilm, by kernel_rfl, rfl, rfl, fun h => by rw [hC 98 rfl] at h; cases h⟩
  by_cases h102 : t = 102
  · subst h102; cases h; exact ⟨.slc [], by kernel_rfl, rfl, rfl, fun h => by rw [hC 102 rfl] at h; cases h⟩
  change zcells t = some cs at h
  unfold zcells at h
  split at h <;> first | (exfalso; contradiction) | (cases h; done)
theorem hD (t : Nat) (h : U.dok t = true) : C.zero t = some (U.enc t (U.dflt t)) := by
  by_cases h2 : t = 2
  · subst h2; first | (cases h; done) | kernel_rfl
  by_cases h3 : t = 3
  · subst h3; first | (cases h; done) | kernel_rfl
  by_cases h4 : t = 4
  · subst h4; first | (cases h; done) | kernel_rfl
  by_cases h5 : t = 5
  · subst h5; first | (cases h; done) | kernel_rfl
  by_cases h9 : t = 9
  · subst h9; first | (cases h; done) | kernel_rfl
  by_cases h22 : t = 22
  · subst h22; first | (cases h; done) | kernel_rfl
  by_cases h25 : t = 25
  · subst h25; first | (cases h; done) | kernel_rfl
  by_cases h33 : t = 33
  · subst h33; first | (cases h; done) | kernel_rfl
  by_cases h40 : t = 40
  · subst h40; first | (cases h; done) | kernel_rfl
  by_cases h53 : t = 53
  · subst h53; first | (cases h; done) | kernel_rfl
  by_cases h58 : t = 58
  · subst h58; first | (cases h; done) | kernel_rfl
  by_cases h60 : t = 60
  · subst h60; first | (cases h; done) | kernel_rfl
  by_cases h61 : t = 61
  · subst h61; first | (cases h; done) | kernel_rfl
  by_cases h70 : t = 70
  · subst h70; first | (cases h; done) | kernel_rfl
  by_cases h74 : t = 74
  · subst h74; first | (cases h; done) | kernel_rfl
  by_cases h78 : t = 78
  · subst h78; first | (cases h; done) | kernel_rfl
  by_cases h81 : t = 81
  · subst h81; first | (cases h; done) | kernel_rfl
  by_cases h83 : t = 83
  · subst h83; first | (cases h; done) | kernel_rfl
  by_cases h98 : t = 98
  · subst h98; first | (cases h; done) | kernel_rfl
  by_cases h102 : t = 102
  · subst h102; first | (cases h; done) | kernel_rfl
  change (tyB t).dok = true at h
  unfold tyB at h
  split at h <;> first | (exfalso; contradiction) | (cases h; done)
theorem hE (t : Nat) (f : U.X t → U.X t → Bool) (h : U.eqT t = some f) : C.P.eqGuardType C.P.depth t = false ∧ ∀ a b, U.enc t a = .agg (U.enc t a).cells ∧ ZpK C 100 t (U.enc t a) (U.enc t b) = some (f a b) := by
  by_cases h58 : t = 58
  · subst h58; cases h; refine ⟨by kernel_rfl, fun a b => ⟨rfl, ?_⟩⟩
    have key : ∀ b0 b1 b2 b3 b4 : Bool, (bif b0 then bif b1 then bif b2 then bif b3 then bif b4 then some true else some false else some false else some false else some false else some false) = some (b0 && b1 && b2 && b3 && b4) := by decide
    exact (show _ = _ by kernel_rfl : ZpK C 100 58 (U.enc 58 a) (U.enc 58 b) = (bif (a : Tok).k == (b : Tok).k then bif (a : Tok).t == (b : Tok).t then bif (a : Tok).n == (b : Tok).n then bif (a : Tok).u == (b : Tok).u then bif (a : Tok).f == (b : Tok).f then some true else some false else some false else some false else some false else some false)).trans (key _ _ _ _ _)
  by_cases h74 : t = 74
  · subst h74; cases h; refine ⟨by kernel_rfl, fun a b => ⟨rfl, ?_⟩⟩
    have key : ∀ b0 b1 b2 : Bool, (bif b0 then bif b1 then bif b2 then some true else some false else some false else some false) = some (b0 && b1 && b2) := by decide
    exact (show _ = _ by kernel_rfl : ZpK C 100 74 (U.enc 74 a) (U.enc 74 b) = (bif (a : Fnd).d == (b : Fnd).d then bif (a : Fnd).t == (b : Fnd).t then bif (a : Fnd).b == (b : Fnd).b then some true else some false else some false else some false)).trans (key _ _ _)
  change eqT t = some f at h
  unfold eqT at h
  split at h <;> first | (exfalso; contradiction) | (cases h; done)
theorem ok : U.Ok C where
  inj := Yia
  prj := Yio
  pack := Yg9
  cells := Ydc
  csz := Yiq
  ok := Yjb
  noagg := Ye1 C hC
  agg := Yh2 C hC
  zcells := hZ
  dok := hD
  keq := Yib
  noMap := YdM
  eqT := hE
  bytes := Yeh
end Go.Tev.S1
namespace Go.Tev.S1
open Go.Abs Go.Proofs
abbrev T1a : Type := Int → Option Int
abbrev T1b : Type := (List Val) × Int → Option Fnd
abbrev T1c : Type := (List Val) → Option Int
abbrev T1d : Type := (List Val) → Option (List Tok)
abbrev T1e : Type := (List Val) × Int → Option Bool
abbrev T1f : Type := (List Val) × Int → Option Int
abbrev T1g : Type := (List Val) × (List Val) → Option Bool
abbrev T1h : Type := (List UInt8) × (List UInt8) → Option Bool
abbrev P1a (K : Zaa) (t : T1a) : Prop := Zag U (Zac C K) 67 ⟨true, [.ty 5], [5], t⟩
abbrev P1b (K : Zaa) (t : T1b) : Prop := Zag U (Zac C K) 43 ⟨true, [.ty 33, .ty 5], [74], t⟩
abbrev P1c (K : Zaa) (t : T1a) : Prop := Zag U (Zac C K) 54 ⟨true, [.ty 5], [5], t⟩
abbrev P1d (K : Zaa) (t : T1c) : Prop := Zag U (Zac C K) 33 ⟨true, [.ty 33], [3], t⟩
abbrev P1e (K : Zaa) (t : T1d) : Prop := Zag U (Zac C K) 46 ⟨true, [.ty 33], [78], t⟩
abbrev P1f (K : Zaa) (t : T1e) : Prop := Zag U (Zac C K) 47 ⟨true, [.ty 33, .ty 5], [4], t⟩
abbrev P1g (K : Zaa) (t : T1f) : Prop := Zag U (Zac C K) 22 ⟨true, [.ty 33, .ty 3], [3], t⟩
abbrev P1h (K : Zaa) (t : T1g) : Prop := Zag U (Zac C K) 21 ⟨true, [.ty 33, .ty 33], [4], t⟩
abbrev P1i (K : Zaa) (t : T1h) : Prop := Zag U (Zac C K) 77 ⟨true, [.ty 9, .ty 9], [4], t⟩
abbrev P1j (K : Zaa) (t : T1h) : Prop := Zag U (Zac C K) 66 ⟨true, [.ty 9, .ty 9], [4], t⟩
def Zhw (n : Nat) (p0 : Int) : Option Int :=
  cond (p0 == (2 : Int))
  (some (22 : Int))
  (Option.bind (some (cond (p0 == (21 : Int)) (p0 == (21 : Int)) (p0 == (23 : Int)))) fun m1 =>
  Option.bind (some (cond (p0 == (19 : Int)) (p0 == (19 : Int)) m1)) fun m2 =>
  cond m2
  (some (IntKind.u8.wrap (p0 + (1 : Int))))
  (some (0 : Int)))
abbrev ZsT : List (Nat × TCall X) := []
noncomputable abbrev ZfX : Cx := ⟨C, U, ZsT , [], fun _ => []⟩
theorem ZpQ : okF (C.ann 67) Try.f67 1 = true := by kernel_rfl
noncomputable abbrev Zh0 (n : Nat) : ZdW (ZfX ) (PX X [5]) := []
theorem Zrz (n : Nat) : ∀ a, fnL (ZfX ) true 67 Try.f67 [.ty 5] [5] (Zh0 n) a = Zhw n a := by
  intro a
  kernel_rfl
theorem Zqb {K : Zaa} : CallsOk (ZfX ) (Zac C K) :=
  ⟨Zap, Zao⟩
theorem ZlN {K : Zaa} (hK : ∀ args h, K 67 args h = none) (t : PX X (AK.tys [.ty 5]) → Option (PX X [5])) (h : ∀ a r, t a = some r → ∃ n, Zhw n a = some r) : Zag U (Zac C K) 67 ⟨true, [.ty 5], [5], t⟩ := by
  refine Zan (x := ZfX ) (ak := [.ty 5]) (rts := [5]) (dir := true) ok (Zqb ) hK Try.func67 ZpQ fun a r hr => ?_
  obtain ⟨n, hn⟩ := h a r hr
  exact ⟨n, Zh0 n, (Zaj (show Zam 0 (Zab Try.f67) = [] by kernel_rfl)), (Zrz n a).trans hn⟩
def ZgE (n : Nat) (p0 : Int) : Option Int :=
  cond (p0 == (19 : Int))
  (some (20 : Int))
  (Option.bind (some (cond (p0 == (21 : Int)) (p0 == (21 : Int)) (p0 == (2 : Int)))) fun m1 =>
  cond m1
  (some (22 : Int))
  (cond (p0 == (23 : Int))
  (some (24 : Int))
  (some (0 : Int))))
abbrev Zqn : List (Nat × TCall X) := []
noncomputable abbrev Ze4 : Cx := ⟨C, U, Zqn , [], fun _ => []⟩
theorem ZoH : okF (C.ann 54) Try.f54 1 = true := by kernel_rfl
noncomputable abbrev Zg3 (n : Nat) : ZdW (Ze4 ) (PX X [5]) := []
theorem Zp8 (n : Nat) : ∀ a, fnL (Ze4 ) true 54 Try.f54 [.ty 5] [5] (Zg3 n) a = ZgE n a := by
  intro a
  kernel_rfl
theorem Zo1 {K : Zaa} : CallsOk (Ze4 ) (Zac C K) :=
  ⟨Zap, Zao⟩
theorem Zlo {K : Zaa} (hK : ∀ args h, K 54 args h = none) (t : PX X (AK.tys [.ty 5]) → Option (PX X [5])) (h : ∀ a r, t a = some r → ∃ n, ZgE n a = some r) : Zag U (Zac C K) 54 ⟨true, [.ty 5], [5], t⟩ := by
  refine Zan (x := Ze4 ) (ak := [.ty 5]) (rts := [5]) (dir := true) ok (Zo1 ) hK Try.func54 ZoH fun a r hr => ?_
  obtain ⟨n, hn⟩ := h a r hr
  exact ⟨n, Zg3 n, (Zaj (show Zam 0 (Zab Try.f54) = [] by kernel_rfl)), (Zp8 n a).trans hn⟩
def ZgB (qa : T1a) (qb : T1b) {R : Type} (n : Nat) (a1 : Int) (a10 : List Val) (a11 : Int) (kx0 : (Int × Int × Bool) → (Int × Int × Bool) → Option R) (y4 : Int × Int × Bool) (y5 : Int × Int × Bool) (y12 : Int) (k : (Int × Int × Bool) → (Int × Int × Bool) → Int → Option R) : Option R :=
  cond (decide (y12 < a11))
  (Option.bind (Zbt a10 y12) fun x3 =>
  Option.bind (qa x3.tok.k) fun r4 =>
  Option.bind (some (cond (a1 != (0 : Int)) (x3.tok.k == a1) false)) fun m5 =>
  Option.bind (cond (!m5) (some (cond (r4 == (0 : Int)) (decide ((x3.l.length : Int) > (0 : Int))) false)) (some (decide ((x3.l.length : Int) > (0 : Int))))) fun m6 =>
  Option.bind (some (cond m5 true m6)) fun m7 =>
  Option.bind (some (cond m7 y4.1 y4.1)) fun m8 =>
  Option.bind (some (cond m7 y4.2.1 y4.2.1)) fun m9 =>
  Option.bind (some (cond m7 y4.2.2 y4.2.2)) fun m10 =>
  Option.bind (some (cond m7 y5.1 y5.1)) fun m11 =>
  Option.bind (some (cond m7 (IntKind.i64.wrap (y5.2.1 + (1 : Int))) (IntKind.i64.wrap (y5.2.1 + (1 : Int))))) fun m12 =>
  Option.bind (some (cond m7 true y5.2.2)) fun m13 =>
  Option.bind (some (cond m7 x3.tok.k x3.tok.k)) fun m14 =>
  Option.bind (some (cond m7 x3.tok.t x3.tok.t)) fun m15 =>
  Option.bind (some (cond m7 x3.tok.n x3.tok.n)) fun m16 =>
  Option.bind (some (cond m7 x3.tok.u x3.tok.u)) fun m17 =>
  Option.bind (some (cond m7 x3.tok.f x3.tok.f)) fun m18 =>
  Option.bind (some (cond m7 x3.l x3.l)) fun m19 =>
  cond (r4 == (0 : Int))
  (k (m8, m9, m10) (m11, m12, m13) (IntKind.i64.wrap (y12 + (1 : Int))))
  (Option.bind (qb (m19, r4)) fun r20 =>
  Option.bind (some (cond m13 true r20.b)) fun m21 =>
  k (m8, m9, m10) ((if IntKind.i64.wrap (r20.d + (1 : Int)) > m11 then IntKind.i64.wrap (r20.d + (1 : Int)) else m11), IntKind.i64.wrap ((IntKind.i64.wrap (m12 + r20.t)) + (1 : Int)), m21) (IntKind.i64.wrap (y12 + (1 : Int)))))
  (kx0 (y4.1, y4.2.1, y4.2.2) (y5.1, y5.2.1, y5.2.2))
def ZkX (qa : T1a) (qb : T1b) (n : Nat) (p0 : List Val) (p1 : Int) : Option Fnd :=
  Zha (ZgB qa qb n p1 p0 (p0.length : Int) (fun z1 z2 =>
  some (Fnd.mk z2.1 z2.2.1 z2.2.2))) n ((0 : Int), (0 : Int), false) ((0 : Int), (0 : Int), false) (0 : Int)
abbrev ZwJ (qa : T1a) (qb : T1b) : List (Nat × TCall X) := [(67, ⟨true, [.ty 5], [5], qa⟩), (43, ⟨true, [.ty 33, .ty 5], [74], qb⟩)]
noncomputable abbrev Zd2 (qa : T1a) (qb : T1b) : Cx := ⟨C, U, ZwJ qa qb, [], fun _ => []⟩
theorem ZtB : okF (C.ann 43) Try.f43 2 = true := by kernel_rfl
abbrev nest_look_L0_D : LD := ⟨0, [.val 1 5, .val 10 33, .val 11 2], [.box 4 [2, 2, 4], .box 5 [2, 2, 4], .val 12 2], [(0, [.box 4 [2, 2, 4], .box 5 [2, 2, 4]])], []⟩
abbrev Zfh (qa : T1a) (qb : T1b) (n : Nat) : LG U (PX X [74]) nest_look_L0_D := fun c kx kr y k => ZgB qa qb n c.1 c.2.1 c.2.2.1 (fun z0 z1 => kx 0 (z0, z1, ())) y.1 y.2.1 y.2.2.1 (fun z0 z1 z2 => k (z0, z1, z2, ()))
noncomputable abbrev Zfb (qa : T1a) (qb : T1b) (n : Nat) : ZdW (Zd2 qa qb) (PX X [74]) := [(0, Zca U nest_look_L0_D (Zfh qa qb n) n)]
theorem Zqw (qa : T1a) (qb : T1b) (n : Nat) : ∀ c kx kr y k1, evL (Zd2 qa qb) (ann 43) (Zfb qa qb n) 0 (Zaf (Zab Try.f43) 0) (ZbY U nest_look_L0_D kx kr k1) (encS U nest_look_L0_D.cap nest_look_L0_D.din c y) = Zfh qa qb n c (fun i z => kx i c z) kr y (fun y2 => k1 c y2) := by
  intro c kx kr y k1
  kernel_rfl
theorem ZwX (qa : T1a) (qb : T1b) (n : Nat) : ∀ a, fnL (Zd2 qa qb) true 43 Try.f43 [.ty 33, .ty 5] [74] (Zfb qa qb n) a = ZkX qa qb n a.1 a.2 := by
  intro a
  kernel_rfl
theorem ZmP {K : Zaa} (qa : T1a) (qb : T1b) (h0 : P1a K qa) (h1 : P1b K qb) : CallsOk (Zd2 qa qb) (Zac C K) :=
  ⟨(Zad h0 (Zad h1 Zap)), Zao⟩
theorem Znb {K : Zaa} (qa : T1a) (qb : T1b) (h0 : P1a K qa) (h1 : P1b K qb) (n : Nat) (b0 : Base) (bn0 : b0.nr ≤ 0) : Law (Zd2 qa qb) b0 (Zac C K) (ann 43) n (Zaf (Zab Try.f43) 0) (Zca U nest_look_L0_D (Zfh qa qb n) n) :=
  Za6 (x := Zd2 qa qb) (id := 0) ok (ZmP qa qb h0 h1) (sums := Zfb qa qb n) (Zaj (show Zam 0 (Zaf (Zab Try.f43) 0) = [] by kernel_rfl)) nest_look_L0_D bn0 (Zfh qa qb n) (Zqw qa qb n)
theorem ZoA {K : Zaa} (hK : ∀ args h, K 43 args h = none) (qa : T1a) (qb : T1b) (h0 : P1a K qa) (h1 : P1b K qb) (t : PX X (AK.tys [.ty 33, .ty 5]) → Option (PX X [74])) (h : ∀ a r, t a = some r → ∃ n, ZkX qa qb n a.1 a.2 = some r) : Zag U (Zac C K) 43 ⟨true, [.ty 33, .ty 5], [74], t⟩ := by
  refine Zan (x := Zd2 qa qb) (ak := [.ty 33, .ty 5]) (rts := [74]) (dir := true) ok (ZmP qa qb h0 h1) hK Try.func43 ZtB fun a r hr => ?_
  obtain ⟨n, hn⟩ := h a r hr
  exact ⟨n, Zfb qa qb n, (ZaB (ids := [0]) (by kernel_rfl) (by decide) (fun i hi => by
    simp only [List.mem_cons, List.not_mem_nil, or_false] at hi
    rcases hi with rfl
    · exact Zay (c2 := Zaf (Zab Try.f43) 0) (by kernel_rfl) (by kernel_rfl) (Znb qa qb h0 h1 _ _ (Nat.le_refl _))
    )), (ZwX qa qb n a).trans hn⟩
def ZiV (qb : T1b) (n : Nat) (p0 : List Val) : Option Int :=
  Option.bind (qb (p0, (0 : Int))) fun r1 =>
  cond (decide (r1.d > (16 : Int)))
  (some (20 : Int))
  (cond (decide (r1.t > (1500 : Int)))
  (some (4 : Int))
  (cond r1.b
  (some (8 : Int))
  (some (0 : Int))))
abbrev Zun (qb : T1b) : List (Nat × TCall X) := [(43, ⟨true, [.ty 33, .ty 5], [74], qb⟩)]
noncomputable abbrev ZgF (qb : T1b) : Cx := ⟨C, U, Zun qb, [], fun _ => []⟩
theorem ZsD : okF (C.ann 24) Try.f24 1 = true := by kernel_rfl
noncomputable abbrev Zij (qb : T1b) (n : Nat) : ZdW (ZgF qb) (PX X [25]) := []
theorem Zt0 (qb : T1b) (n : Nat) : ∀ a, fnL (ZgF qb) true 24 Try.f24 [.ty 33] [25] (Zij qb n) a = ZiV qb n a := by
  intro a
  kernel_rfl
theorem Zsu {K : Zaa} (qb : T1b) (h0 : P1b K qb) : CallsOk (ZgF qb) (Zac C K) :=
  ⟨(Zad h0 Zap), Zao⟩
theorem ZnA {K : Zaa} (hK : ∀ args h, K 24 args h = none) (qb : T1b) (h0 : P1b K qb) (t : PX X (AK.tys [.ty 33]) → Option (PX X [25])) (h : ∀ a r, t a = some r → ∃ n, ZiV qb n a = some r) : Zag U (Zac C K) 24 ⟨true, [.ty 33], [25], t⟩ := by
  refine Zan (x := ZgF qb) (ak := [.ty 33]) (rts := [25]) (dir := true) ok (Zsu qb h0) hK Try.func24 ZsD fun a r hr => ?_
  obtain ⟨n, hn⟩ := h a r hr
  exact ⟨n, Zij qb n, (Zaj (show Zam 0 (Zab Try.f24) = [] by kernel_rfl)), (Zt0 qb n a).trans hn⟩
def ZfS (qc : T1a) (qd : T1c) {R : Type} (n : Nat) (a0 : List Val) (a2 : Int) (kx0 : Int → Option R) (y3 : Int) (y4 : Int) (k : Int → Int → Option R) : Option R :=
  cond (decide (y4 < (a0.length : Int)))
  (Option.bind (Zbt a0 y4) fun x2 =>
  Option.bind (qc x2.tok.k) fun r3 =>
  Option.bind (cond (r3 != (0 : Int)) (Zbt a0 y4) (some ZsA)) fun x4 =>
  Option.bind (cond (r3 != (0 : Int)) (qd x4.l) (some (0 : Int))) fun r5 =>
  Option.bind (some (cond (r3 != (0 : Int)) (if IntKind.i64.wrap ((1 : Int) + r5) > y3 then IntKind.i64.wrap ((1 : Int) + r5) else y3) y3)) fun m6 =>
  k m6 (IntKind.i64.wrap (y4 + (1 : Int))))
  (kx0 y3)
def Zi4 (qc : T1a) (qd : T1c) (n : Nat) (p0 : List Val) : Option Int :=
  ZcS (ZfS qc qd n p0 (0 : Int) (fun z1 =>
  some z1)) n (0 : Int) (0 : Int)
abbrev Ztz (qc : T1a) (qd : T1c) : List (Nat × TCall X) := [(54, ⟨true, [.ty 5], [5], qc⟩), (33, ⟨true, [.ty 33], [3], qd⟩)]
noncomputable abbrev Zc1 (qc : T1a) (qd : T1c) : Cx := ⟨C, U, Ztz qc qd, [], fun _ => []⟩
theorem Zsn : okF (C.ann 33) Try.f33 1 = true := by kernel_rfl
abbrev ref04_Deep_L0_D : LD := ⟨0, [.val 0 33, .val 2 2], [.val 3 2, .val 4 2], [(0, [.val 3 2])], []⟩
abbrev Zes (qc : T1a) (qd : T1c) (n : Nat) : LG U (PX X [3]) ref04_Deep_L0_D := fun c kx kr y k => ZfS qc qd n c.1 c.2.1 (fun z0 => kx 0 (z0, ())) y.1 y.2.1 (fun z0 z1 => k (z0, z1, ()))
noncomputable abbrev Zed (qc : T1a) (qd : T1c) (n : Nat) : ZdW (Zc1 qc qd) (PX X [3]) := [(0, Zca U ref04_Deep_L0_D (Zes qc qd n) n)]
theorem ZoW (qc : T1a) (qd : T1c) (n : Nat) : ∀ c kx kr y k1, evL (Zc1 qc qd) (ann 33) (Zed qc qd n) 0 (Zaf (Zab Try.f33) 0) (ZbY U ref04_Deep_L0_D kx kr k1) (encS U ref04_Deep_L0_D.cap ref04_Deep_L0_D.din c y) = Zes qc qd n c (fun i z => kx i c z) kr y (fun y2 => k1 c y2) := by
  intro c kx kr y k1
  kernel_rfl
theorem ZuD (qc : T1a) (qd : T1c) (n : Nat) : ∀ a, fnL (Zc1 qc qd) true 33 Try.f33 [.ty 33] [3] (Zed qc qd n) a = Zi4 qc qd n a := by
  intro a
  kernel_rfl
theorem Zkf {K : Zaa} (qc : T1a) (qd : T1c) (h0 : P1c K qc) (h1 : P1d K qd) : CallsOk (Zc1 qc qd) (Zac C K) :=
  ⟨(Zad h0 (Zad h1 Zap)), Zao⟩
theorem ZlO {K : Zaa} (qc : T1a) (qd : T1c) (h0 : P1c K qc) (h1 : P1d K qd) (n : Nat) (b0 : Base) (bn0 : b0.nr ≤ 0) : Law (Zc1 qc qd) b0 (Zac C K) (ann 33) n (Zaf (Zab Try.f33) 0) (Zca U ref04_Deep_L0_D (Zes qc qd n) n) :=
  Za6 (x := Zc1 qc qd) (id := 0) ok (Zkf qc qd h0 h1) (sums := Zed qc qd n) (Zaj (show Zam 0 (Zaf (Zab Try.f33) 0) = [] by kernel_rfl)) ref04_Deep_L0_D bn0 (Zes qc qd n) (ZoW qc qd n)
theorem ZnC {K : Zaa} (hK : ∀ args h, K 33 args h = none) (qc : T1a) (qd : T1c) (h0 : P1c K qc) (h1 : P1d K qd) (t : PX X (AK.tys [.ty 33]) → Option (PX X [3])) (h : ∀ a r, t a = some r → ∃ n, Zi4 qc qd n a = some r) : Zag U (Zac C K) 33 ⟨true, [.ty 33], [3], t⟩ := by
  refine Zan (x := Zc1 qc qd) (ak := [.ty 33]) (rts := [3]) (dir := true) ok (Zkf qc qd h0 h1) hK Try.func33 Zsn fun a r hr => ?_
  obtain ⟨n, hn⟩ := h a r hr
  exact ⟨n, Zed qc qd n, (ZaB (ids := [0]) (by kernel_rfl) (by decide) (fun i hi => by
    simp only [List.mem_cons, List.not_mem_nil, or_false] at hi
    rcases hi with rfl
    · exact Zay (c2 := Zaf (Zab Try.f33) 0) (by kernel_rfl) (by kernel_rfl) (ZlO qc qd h0 h1 _ _ (Nat.le_refl _))
    )), (ZuD qc qd n a).trans hn⟩
def Zer (qc : T1a) (qe : T1d) {R : Type} (n : Nat) (a0 : List Val) (a2 : List Tok) (kx0 : List Tok → Option R) (y3 : List Tok) (y4 : Int) (k : List Tok → Int → Option R) : Option R :=
  cond (decide (y4 < (a0.length : Int)))
  (Option.bind (Zbt a0 y4) fun x2 =>
  Option.bind (Option.bind (room 56 (y3.length + [x2.tok].length)) (fun _ => some (y3 ++ [x2.tok]))) fun o3 =>
  Option.bind (Zbt a0 y4) fun x4 =>
  Option.bind (qc x4.tok.k) fun r5 =>
  Option.bind (cond (r5 != (0 : Int)) (Zbt a0 y4) (some ZsA)) fun x6 =>
  Option.bind (cond (r5 != (0 : Int)) (qe x6.l) (some [])) fun r7 =>
  Option.bind (cond (r5 != (0 : Int)) (Option.bind (room 56 (o3.length + r7.length)) (fun _ => some (o3 ++ r7))) (some o3)) fun o8 =>
  Option.bind (cond (r5 != (0 : Int)) (Option.bind (room 56 (o8.length + [(Tok.mk r5 [] (0 : Int) [] false)].length)) (fun _ => some (o8 ++ [(Tok.mk r5 [] (0 : Int) [] false)]))) (some o8)) fun o9 =>
  Option.bind (some (cond (r5 != (0 : Int)) o9 o3)) fun m10 =>
  k m10 (IntKind.i64.wrap (y4 + (1 : Int))))
  (kx0 y3)
def Zgx (qc : T1a) (qe : T1d) (n : Nat) (p0 : List Val) : Option (List Tok) :=
  ZcS (Zer qc qe n p0 [] (fun z1 =>
  some z1)) n [] (0 : Int)
abbrev Zp5 (qc : T1a) (qe : T1d) : List (Nat × TCall X) := [(54, ⟨true, [.ty 5], [5], qc⟩), (46, ⟨true, [.ty 33], [78], qe⟩)]
noncomputable abbrev Zb6 (qc : T1a) (qe : T1d) : Cx := ⟨C, U, Zp5 qc qe, [], fun _ => []⟩
theorem ZoV : okF (C.ann 46) Try.f46 1 = true := by kernel_rfl
abbrev ref04_Tokens_L0_D : LD := ⟨0, [.val 0 33, .val 2 78], [.own 3 58, .val 4 2], [(0, [.own 3 58])], []⟩
abbrev Zdi (qc : T1a) (qe : T1d) (n : Nat) : LG U (PX X [78]) ref04_Tokens_L0_D := fun c kx kr y k => Zer qc qe n c.1 c.2.1 (fun z0 => kx 0 (z0, ())) y.1 y.2.1 (fun z0 z1 => k (z0, z1, ()))
noncomputable abbrev Zdd (qc : T1a) (qe : T1d) (n : Nat) : ZdW (Zb6 qc qe) (PX X [78]) := [(0, Zca U ref04_Tokens_L0_D (Zdi qc qe n) n)]
theorem Zms (qc : T1a) (qe : T1d) (n : Nat) : ∀ c kx kr y k1, evL (Zb6 qc qe) (ann 46) (Zdd qc qe n) 0 (Zaf (Zab Try.f46) 0) (ZbY U ref04_Tokens_L0_D kx kr k1) (encS U ref04_Tokens_L0_D.cap ref04_Tokens_L0_D.din c y) = Zdi qc qe n c (fun i z => kx i c z) kr y (fun y2 => k1 c y2) := by
  intro c kx kr y k1
  kernel_rfl
theorem ZpN (qc : T1a) (qe : T1d) (n : Nat) : ∀ a, fnL (Zb6 qc qe) true 46 Try.f46 [.ty 33] [78] (Zdd qc qe n) a = Zgx qc qe n a := by
  intro a
  kernel_rfl
theorem Ziw {K : Zaa} (qc : T1a) (qe : T1d) (h0 : P1c K qc) (h1 : P1e K qe) : CallsOk (Zb6 qc qe) (Zac C K) :=
  ⟨(Zad h0 (Zad h1 Zap)), Zao⟩
theorem ZjR {K : Zaa} (qc : T1a) (qe : T1d) (h0 : P1c K qc) (h1 : P1e K qe) (n : Nat) (b0 : Base) (bn0 : b0.nr ≤ 0) : Law (Zb6 qc qe) b0 (Zac C K) (ann 46) n (Zaf (Zab Try.f46) 0) (Zca U ref04_Tokens_L0_D (Zdi qc qe n) n) :=
  Za6 (x := Zb6 qc qe) (id := 0) ok (Ziw qc qe h0 h1) (sums := Zdd qc qe n) (Zaj (show Zam 0 (Zaf (Zab Try.f46) 0) = [] by kernel_rfl)) ref04_Tokens_L0_D bn0 (Zdi qc qe n) (Zms qc qe n)
theorem Zlm {K : Zaa} (hK : ∀ args h, K 46 args h = none) (qc : T1a) (qe : T1d) (h0 : P1c K qc) (h1 : P1e K qe) (t : PX X (AK.tys [.ty 33]) → Option (PX X [78])) (h : ∀ a r, t a = some r → ∃ n, Zgx qc qe n a = some r) : Zag U (Zac C K) 46 ⟨true, [.ty 33], [78], t⟩ := by
  refine Zan (x := Zb6 qc qe) (ak := [.ty 33]) (rts := [78]) (dir := true) ok (Ziw qc qe h0 h1) hK Try.func46 ZoV fun a r hr => ?_
  obtain ⟨n, hn⟩ := h a r hr
  exact ⟨n, Zdd qc qe n, (ZaB (ids := [0]) (by kernel_rfl) (by decide) (fun i hi => by
    simp only [List.mem_cons, List.not_mem_nil, or_false] at hi
    rcases hi with rfl
    · exact Zay (c2 := Zaf (Zab Try.f46) 0) (by kernel_rfl) (by kernel_rfl) (ZjR qc qe h0 h1 _ _ (Nat.le_refl _))
    )), (ZpN qc qe n a).trans hn⟩
def Zef (qc : T1a) (qf : T1e) {R : Type} (n : Nat) (a0 : List Val) (a1 : Int) (kx0 : Bool → Option R) (kr : Bool → Option R) (y4 : Bool) (y5 : Int) (k : Bool → Int → Option R) : Option R :=
  cond (decide (y5 < (a0.length : Int)))
  (Option.bind (Zbt a0 y5) fun x3 =>
  Option.bind (qc x3.tok.k) fun r4 =>
  Option.bind (cond (r4 == (0 : Int)) (Zbt a0 y5) (some ZsA)) fun x5 =>
  Option.bind (some (cond (r4 == (0 : Int)) (decide ((x5.l.length : Int) > (0 : Int))) false)) fun m6 =>
  Option.bind (cond ((!m6) && (a1 != (0 : Int))) (Zbt a0 y5) (some ZsA)) fun x7 =>
  Option.bind (cond (!m6) (some (cond (a1 != (0 : Int)) (x7.tok.k == a1) false)) (some (x7.tok.k == a1))) fun m8 =>
  Option.bind (some (cond m6 true m8)) fun m9 =>
  Option.bind (cond ((!m9) && (r4 != (0 : Int))) (Zbt a0 y5) (some ZsA)) fun x10 =>
  Option.bind (cond ((!m9) && (r4 != (0 : Int))) (qf (x10.l, r4)) (some false)) fun r11 =>
  Option.bind (cond (!m9) (some (cond (r4 != (0 : Int)) (!r11) false)) (some (!r11))) fun m12 =>
  Option.bind (some (cond m9 true m12)) fun m13 =>
  cond m13
  (kr false)
  (k y4 (IntKind.i64.wrap (y5 + (1 : Int)))))
  (kx0 y4)
def ZgI (qc : T1a) (qf : T1e) (n : Nat) (p0 : List Val) (p1 : Int) : Option Bool :=
  ZcS (Zef qc qf n p0 p1 (fun z1 =>
  some true) (fun z2 =>
  some z2)) n false (0 : Int)
abbrev Zql (qc : T1a) (qf : T1e) : List (Nat × TCall X) := [(54, ⟨true, [.ty 5], [5], qc⟩), (47, ⟨true, [.ty 33, .ty 5], [4], qf⟩)]
noncomputable abbrev Zb7 (qc : T1a) (qf : T1e) : Cx := ⟨C, U, Zql qc qf, [], fun _ => []⟩
theorem Zpo : okF (C.ann 47) Try.f47 2 = true := by kernel_rfl
abbrev ref04_shaped_L0_D : LD := ⟨0, [.val 0 33, .val 1 5], [.val 4 4, .val 5 2], [(0, [.val 4 4])], [.val 4 4]⟩
abbrev Zdg (qc : T1a) (qf : T1e) (n : Nat) : LG U (PX X [4]) ref04_shaped_L0_D := fun c kx kr y k => Zef qc qf n c.1 c.2.1 (fun z0 => kx 0 (z0, ())) (fun z0 => kr (z0, ())) y.1 y.2.1 (fun z0 z1 => k (z0, z1, ()))
noncomputable abbrev Zdh (qc : T1a) (qf : T1e) (n : Nat) : ZdW (Zb7 qc qf) (PX X [4]) := [(0, Zca U ref04_shaped_L0_D (Zdg qc qf n) n)]
theorem Zmr (qc : T1a) (qf : T1e) (n : Nat) : ∀ c kx kr y k1, evL (Zb7 qc qf) (ann 47) (Zdh qc qf n) 0 (Zaf (Zab Try.f47) 0) (ZbY U ref04_shaped_L0_D kx kr k1) (encS U ref04_shaped_L0_D.cap ref04_shaped_L0_D.din c y) = Zdg qc qf n c (fun i z => kx i c z) kr y (fun y2 => k1 c y2) := by
  intro c kx kr y k1
  kernel_rfl
theorem Zqa (qc : T1a) (qf : T1e) (n : Nat) : ∀ a, fnL (Zb7 qc qf) true 47 Try.f47 [.ty 33, .ty 5] [4] (Zdh qc qf n) a = ZgI qc qf n a.1 a.2 := by
  intro a
  kernel_rfl
theorem ZiF {K : Zaa} (qc : T1a) (qf : T1e) (h0 : P1c K qc) (h1 : P1f K qf) : CallsOk (Zb7 qc qf) (Zac C K) :=
  ⟨(Zad h0 (Zad h1 Zap)), Zao⟩
theorem Zj7 {K : Zaa} (qc : T1a) (qf : T1e) (h0 : P1c K qc) (h1 : P1f K qf) (n : Nat) (b0 : Base) (bn0 : b0.nr ≤ 0) : Law (Zb7 qc qf) b0 (Zac C K) (ann 47) n (Zaf (Zab Try.f47) 0) (Zca U ref04_shaped_L0_D (Zdg qc qf n) n) :=
  Za6 (x := Zb7 qc qf) (id := 0) ok (ZiF qc qf h0 h1) (sums := Zdh qc qf n) (Zaj (show Zam 0 (Zaf (Zab Try.f47) 0) = [] by kernel_rfl)) ref04_shaped_L0_D bn0 (Zdg qc qf n) (Zmr qc qf n)
theorem Zkg {K : Zaa} (hK : ∀ args h, K 47 args h = none) (qc : T1a) (qf : T1e) (h0 : P1c K qc) (h1 : P1f K qf) (t : PX X (AK.tys [.ty 33, .ty 5]) → Option (PX X [4])) (h : ∀ a r, t a = some r → ∃ n, ZgI qc qf n a.1 a.2 = some r) : Zag U (Zac C K) 47 ⟨true, [.ty 33, .ty 5], [4], t⟩ := by
  refine Zan (x := Zb7 qc qf) (ak := [.ty 33, .ty 5]) (rts := [4]) (dir := true) ok (ZiF qc qf h0 h1) hK Try.func47 Zpo fun a r hr => ?_
  obtain ⟨n, hn⟩ := h a r hr
  exact ⟨n, Zdh qc qf n, (ZaB (ids := [0]) (by kernel_rfl) (by decide) (fun i hi => by
    simp only [List.mem_cons, List.not_mem_nil, or_false] at hi
    rcases hi with rfl
    · exact Zay (c2 := Zaf (Zab Try.f47) 0) (by kernel_rfl) (by kernel_rfl) (Zj7 qc qf h0 h1 _ _ (Nat.le_refl _))
    )), (Zqa qc qf n a).trans hn⟩
def Zhr (qd : T1c) (qe : T1d) (qf : T1e) (n : Nat) (p0 : List Val) : Option Int :=
  Option.bind (qd p0) fun r1 =>
  cond (decide (r1 > (16 : Int)))
  (some (20 : Int))
  (Option.bind (qe p0) fun r2 =>
  cond (decide ((r2.length : Int) > (1500 : Int)))
  (some (4 : Int))
  (Option.bind (qf (p0, (0 : Int))) fun r3 =>
  cond (!r3)
  (some (8 : Int))
  (some (0 : Int))))
abbrev ZsS (qd : T1c) (qe : T1d) (qf : T1e) : List (Nat × TCall X) := [(33, ⟨true, [.ty 33], [3], qd⟩), (46, ⟨true, [.ty 33], [78], qe⟩), (47, ⟨true, [.ty 33, .ty 5], [4], qf⟩)]
noncomputable abbrev ZfC (qd : T1c) (qe : T1d) (qf : T1e) : Cx := ⟨C, U, ZsS qd qe qf, [], fun _ => []⟩
theorem Zqr : okF (C.ann 27) Try.f27 1 = true := by kernel_rfl
noncomputable abbrev Zh1 (qd : T1c) (qe : T1d) (qf : T1e) (n : Nat) : ZdW (ZfC qd qe qf) (PX X [3]) := []
theorem ZsW (qd : T1c) (qe : T1d) (qf : T1e) (n : Nat) : ∀ a, fnL (ZfC qd qe qf) true 27 Try.f27 [.ty 33] [3] (Zh1 qd qe qf n) a = Zhr qd qe qf n a := by
  intro a
  kernel_rfl
theorem Zp9 {K : Zaa} (qd : T1c) (qe : T1d) (qf : T1e) (h0 : P1d K qd) (h1 : P1e K qe) (h2 : P1f K qf) : CallsOk (ZfC qd qe qf) (Zac C K) :=
  ⟨(Zad h0 (Zad h1 (Zad h2 Zap))), Zao⟩
theorem ZmG {K : Zaa} (hK : ∀ args h, K 27 args h = none) (qd : T1c) (qe : T1d) (qf : T1e) (h0 : P1d K qd) (h1 : P1e K qe) (h2 : P1f K qf) (t : PX X (AK.tys [.ty 33]) → Option (PX X [3])) (h : ∀ a r, t a = some r → ∃ n, Zhr qd qe qf n a = some r) : Zag U (Zac C K) 27 ⟨true, [.ty 33], [3], t⟩ := by
  refine Zan (x := ZfC qd qe qf) (ak := [.ty 33]) (rts := [3]) (dir := true) ok (Zp9 qd qe qf h0 h1 h2) hK Try.func27 Zqr fun a r hr => ?_
  obtain ⟨n, hn⟩ := h a r hr
  exact ⟨n, Zh1 qd qe qf n, (Zaj (show Zam 0 (Zab Try.f27) = [] by kernel_rfl)), (ZsW qd qe qf n a).trans hn⟩
def Zhx (qg : T1f) (qd : T1c) (n : Nat) (p0 : List Val) : Option Bool :=
  Option.bind (qg (p0, (300 : Int))) fun r1 =>
  Option.bind (cond (!(decide (r1 > (300 : Int)))) (qd p0) (some (0 : Int))) fun r2 =>
  Option.bind (some (cond (decide (r1 > (300 : Int))) true (decide (r2 > (40 : Int))))) fun m3 =>
  some m3
abbrev Zs2 (qg : T1f) (qd : T1c) : List (Nat × TCall X) := [(22, ⟨true, [.ty 33, .ty 3], [3], qg⟩), (33, ⟨true, [.ty 33], [3], qd⟩)]
noncomputable abbrev ZfY (qg : T1f) (qd : T1c) : Cx := ⟨C, U, Zs2 qg qd, [], fun _ => []⟩
theorem ZpI : okF (C.ann 12) Try.f12 1 = true := by kernel_rfl
noncomputable abbrev ZhU (qg : T1f) (qd : T1c) (n : Nat) : ZdW (ZfY qg qd) (PX X [4]) := []
theorem Zri (qg : T1f) (qd : T1c) (n : Nat) : ∀ a, fnL (ZfY qg qd) true 12 Try.f12 [.ty 33] [4] (ZhU qg qd n) a = Zhx qg qd n a := by
  intro a
  kernel_rfl
theorem ZpJ {K : Zaa} (qg : T1f) (qd : T1c) (h0 : P1g K qg) (h1 : P1d K qd) : CallsOk (ZfY qg qd) (Zac C K) :=
  ⟨(Zad h0 (Zad h1 Zap)), Zao⟩
theorem Zmv {K : Zaa} (hK : ∀ args h, K 12 args h = none) (qg : T1f) (qd : T1c) (h0 : P1g K qg) (h1 : P1d K qd) (t : PX X (AK.tys [.ty 33]) → Option (PX X [4])) (h : ∀ a r, t a = some r → ∃ n, Zhx qg qd n a = some r) : Zag U (Zac C K) 12 ⟨true, [.ty 33], [4], t⟩ := by
  refine Zan (x := ZfY qg qd) (ak := [.ty 33]) (rts := [4]) (dir := true) ok (ZpJ qg qd h0 h1) hK Try.func12 ZpI fun a r hr => ?_
  obtain ⟨n, hn⟩ := h a r hr
  exact ⟨n, ZhU qg qd n, (Zaj (show Zam 0 (Zab Try.f12) = [] by kernel_rfl)), (Zri qg qd n a).trans hn⟩
def Zdk (qg : T1f) {R : Type} (n : Nat) (a0 : List Val) (a1 : Int) (a4 : Int) (kx0 : Int → Option R) (y5 : Int) (y6 : Int) (k : Int → Int → Option R) : Option R :=
  Option.bind (some (cond (decide (y6 < (a0.length : Int))) (decide (y5 ≤ a1)) false)) fun m2 =>
  cond m2
  (Option.bind (Zbt a0 y6) fun x3 =>
  Option.bind (Zbt a0 y6) fun x4 =>
  Option.bind (Zbt a0 y6) fun x5 =>
  Option.bind (qg (x5.l, IntKind.i64.wrap (a1 - y5))) fun r6 =>
  k (IntKind.i64.wrap (y5 + (IntKind.i64.wrap ((IntKind.i64.wrap ((IntKind.i64.wrap ((1 : Int) + (x3.tok.t.length : Int))) + (x4.tok.u.length : Int))) + r6)))) (IntKind.i64.wrap (y6 + (1 : Int))))
  (kx0 y5)
def ZiK (qg : T1f) (n : Nat) (p0 : List Val) (p1 : Int) : Option Int :=
  ZcS (Zdk qg n p0 p1 (0 : Int) (fun z1 =>
  some z1)) n (0 : Int) (0 : Int)
abbrev ZuJ (qg : T1f) : List (Nat × TCall X) := [(22, ⟨true, [.ty 33, .ty 3], [3], qg⟩)]
noncomputable abbrev ZcV (qg : T1f) : Cx := ⟨C, U, ZuJ qg, [], fun _ => []⟩
theorem Zs4 : okF (C.ann 22) Try.f22 2 = true := by kernel_rfl
abbrev ref04_Size_L0_D : LD := ⟨0, [.val 0 33, .val 1 2, .val 4 2], [.val 5 2, .val 6 2], [(0, [.val 5 2])], []⟩
abbrev Zei (qg : T1f) (n : Nat) : LG U (PX X [3]) ref04_Size_L0_D := fun c kx kr y k => Zdk qg n c.1 c.2.1 c.2.2.1 (fun z0 => kx 0 (z0, ())) y.1 y.2.1 (fun z0 z1 => k (z0, z1, ()))
noncomputable abbrev ZeC (qg : T1f) (n : Nat) : ZdW (ZcV qg) (PX X [3]) := [(0, Zca U ref04_Size_L0_D (Zei qg n) n)]
theorem ZoG (qg : T1f) (n : Nat) : ∀ c kx kr y k1, evL (ZcV qg) (ann 22) (ZeC qg n) 0 (Zaf (Zab Try.f22) 0) (ZbY U ref04_Size_L0_D kx kr k1) (encS U ref04_Size_L0_D.cap ref04_Size_L0_D.din c y) = Zei qg n c (fun i z => kx i c z) kr y (fun y2 => k1 c y2) := by
  intro c kx kr y k1
  kernel_rfl
theorem Ztq (qg : T1f) (n : Nat) : ∀ a, fnL (ZcV qg) true 22 Try.f22 [.ty 33, .ty 3] [3] (ZeC qg n) a = ZiK qg n a.1 a.2 := by
  intro a
  kernel_rfl
theorem Zk0 {K : Zaa} (qg : T1f) (h0 : P1g K qg) : CallsOk (ZcV qg) (Zac C K) :=
  ⟨(Zad h0 Zap), Zao⟩
theorem ZlU {K : Zaa} (qg : T1f) (h0 : P1g K qg) (n : Nat) (b0 : Base) (bn0 : b0.nr ≤ 0) : Law (ZcV qg) b0 (Zac C K) (ann 22) n (Zaf (Zab Try.f22) 0) (Zca U ref04_Size_L0_D (Zei qg n) n) :=
  Za6 (x := ZcV qg) (id := 0) ok (Zk0 qg h0) (sums := ZeC qg n) (Zaj (show Zam 0 (Zaf (Zab Try.f22) 0) = [] by kernel_rfl)) ref04_Size_L0_D bn0 (Zei qg n) (ZoG qg n)
theorem Zng {K : Zaa} (hK : ∀ args h, K 22 args h = none) (qg : T1f) (h0 : P1g K qg) (t : PX X (AK.tys [.ty 33, .ty 3]) → Option (PX X [3])) (h : ∀ a r, t a = some r → ∃ n, ZiK qg n a.1 a.2 = some r) : Zag U (Zac C K) 22 ⟨true, [.ty 33, .ty 3], [3], t⟩ := by
  refine Zan (x := ZcV qg) (ak := [.ty 33, .ty 3]) (rts := [3]) (dir := true) ok (Zk0 qg h0) hK Try.func22 Zs4 fun a r hr => ?_
  obtain ⟨n, hn⟩ := h a r hr
  exact ⟨n, ZeC qg n, (ZaB (ids := [0]) (by kernel_rfl) (by decide) (fun i hi => by
    simp only [List.mem_cons, List.not_mem_nil, or_false] at hi
    rcases hi with rfl
    · exact Zay (c2 := Zaf (Zab Try.f22) 0) (by kernel_rfl) (by kernel_rfl) (ZlU qg h0 _ _ (Nat.le_refl _))
    )), (Ztq qg n a).trans hn⟩
def ZfH (qh : T1g) {R : Type} (n : Nat) (a0 : List Val) (a1 : List Val) (kx0 : Bool → Option R) (kr : Bool → Option R) (y4 : Bool) (y5 : Int) (k : Bool → Int → Option R) : Option R :=
  cond (decide (y5 < (a0.length : Int)))
  (Option.bind (Zbt a0 y5) fun x3 =>
  Option.bind (Zbt a1 y5) fun x4 =>
  Option.bind (cond (!(!(Tok.eqb x3.tok x4.tok))) (Zbt a0 y5) (some ZsA)) fun x5 =>
  Option.bind (cond (!(!(Tok.eqb x3.tok x4.tok))) (Zbt a1 y5) (some ZsA)) fun x6 =>
  Option.bind (cond (!(!(Tok.eqb x3.tok x4.tok))) (qh (x5.l, x6.l)) (some false)) fun r7 =>
  Option.bind (some (cond (!(Tok.eqb x3.tok x4.tok)) true (!r7))) fun m8 =>
  cond m8
  (kr false)
  (k y4 (IntKind.i64.wrap (y5 + (1 : Int)))))
  (kx0 y4)
def ZiS (qh : T1g) (n : Nat) (p0 : List Val) (p1 : List Val) : Option Bool :=
  cond ((p0.length : Int) != (p1.length : Int))
  (some false)
  (ZcS (ZfH qh n p0 p1 (fun z1 =>
  some true) (fun z2 =>
  some z2)) n false (0 : Int))
abbrev Zuo (qh : T1g) : List (Nat × TCall X) := [(21, ⟨true, [.ty 33, .ty 33], [4], qh⟩)]
noncomputable abbrev ZcX (qh : T1g) : Cx := ⟨C, U, Zuo qh, [], fun _ => []⟩
theorem ZsE : okF (C.ann 21) Try.f21 2 = true := by kernel_rfl
abbrev ref04_Same_L0_D : LD := ⟨0, [.val 0 33, .val 1 33], [.val 4 4, .val 5 2], [(0, [.val 4 4])], [.val 4 4]⟩
abbrev Zem (qh : T1g) (n : Nat) : LG U (PX X [4]) ref04_Same_L0_D := fun c kx kr y k => ZfH qh n c.1 c.2.1 (fun z0 => kx 0 (z0, ())) (fun z0 => kr (z0, ())) y.1 y.2.1 (fun z0 z1 => k (z0, z1, ()))
noncomputable abbrev ZeJ (qh : T1g) (n : Nat) : ZdW (ZcX qh) (PX X [4]) := [(0, Zca U ref04_Same_L0_D (Zem qh n) n)]
theorem ZoF (qh : T1g) (n : Nat) : ∀ c kx kr y k1, evL (ZcX qh) (ann 21) (ZeJ qh n) 0 (Zaf (Zab Try.f21) 0) (ZbY U ref04_Same_L0_D kx kr k1) (encS U ref04_Same_L0_D.cap ref04_Same_L0_D.din c y) = Zem qh n c (fun i z => kx i c z) kr y (fun y2 => k1 c y2) := by
  intro c kx kr y k1
  kernel_rfl
theorem ZuL (qh : T1g) (n : Nat) : ∀ a, fnL (ZcX qh) true 21 Try.f21 [.ty 33, .ty 33] [4] (ZeJ qh n) a = ZiS qh n a.1 a.2 := by
  intro a
  kernel_rfl
theorem Zk8 {K : Zaa} (qh : T1g) (h0 : P1h K qh) : CallsOk (ZcX qh) (Zac C K) :=
  ⟨(Zad h0 Zap), Zao⟩
theorem Zl6 {K : Zaa} (qh : T1g) (h0 : P1h K qh) (n : Nat) (b0 : Base) (bn0 : b0.nr ≤ 0) : Law (ZcX qh) b0 (Zac C K) (ann 21) n (Zaf (Zab Try.f21) 0) (Zca U ref04_Same_L0_D (Zem qh n) n) :=
  Za6 (x := ZcX qh) (id := 0) ok (Zk8 qh h0) (sums := ZeJ qh n) (Zaj (show Zam 0 (Zaf (Zab Try.f21) 0) = [] by kernel_rfl)) ref04_Same_L0_D bn0 (Zem qh n) (ZoF qh n)
theorem Znc {K : Zaa} (hK : ∀ args h, K 21 args h = none) (qh : T1g) (h0 : P1h K qh) (t : PX X (AK.tys [.ty 33, .ty 33]) → Option (PX X [4])) (h : ∀ a r, t a = some r → ∃ n, ZiS qh n a.1 a.2 = some r) : Zag U (Zac C K) 21 ⟨true, [.ty 33, .ty 33], [4], t⟩ := by
  refine Zan (x := ZcX qh) (ak := [.ty 33, .ty 33]) (rts := [4]) (dir := true) ok (Zk8 qh h0) hK Try.func21 ZsE fun a r hr => ?_
  obtain ⟨n, hn⟩ := h a r hr
  exact ⟨n, ZeJ qh n, (ZaB (ids := [0]) (by kernel_rfl) (by decide) (fun i hi => by
    simp only [List.mem_cons, List.not_mem_nil, or_false] at hi
    rcases hi with rfl
    · exact Zay (c2 := Zaf (Zab Try.f21) 0) (by kernel_rfl) (by kernel_rfl) (Zl6 qh h0 _ _ (Nat.le_refl _))
    )), (ZuL qh n a).trans hn⟩
def Zg8 (qi : T1h) (n : Nat) (p0 : List UInt8) (p1 : List UInt8) : Option Bool :=
  Option.bind (qi (p0, p1)) fun r1 =>
  some r1
abbrev ZjQ (qi : T1h) : List (Nat × TCall X) := [(77, ⟨true, [.ty 9, .ty 9], [4], qi⟩)]
noncomputable abbrev Zcy (qi : T1h) : Cx := ⟨C, U, ZjQ qi, [], fun _ => []⟩
theorem Zjp : okF (C.ann 66) Try.f66 2 = true := by kernel_rfl
noncomputable abbrev ZeS (qi : T1h) (n : Nat) : ZdW (Zcy qi) (PX X [4]) := []
theorem ZjL (qi : T1h) (n : Nat) : ∀ a, fnL (Zcy qi) true 66 Try.f66 [.ty 9, .ty 9] [4] (ZeS qi n) a = Zg8 qi n a.1 a.2 := by
  intro a
  kernel_rfl
theorem Zjk {K : Zaa} (qi : T1h) (h0 : P1i K qi) : CallsOk (Zcy qi) (Zac C K) :=
  ⟨(Zad h0 Zap), Zao⟩
theorem ZhJ {K : Zaa} (hK : ∀ args h, K 66 args h = none) (qi : T1h) (h0 : P1i K qi) (t : PX X (AK.tys [.ty 9, .ty 9]) → Option (PX X [4])) (h : ∀ a r, t a = some r → ∃ n, Zg8 qi n a.1 a.2 = some r) : Zag U (Zac C K) 66 ⟨true, [.ty 9, .ty 9], [4], t⟩ := by
  refine Zan (x := Zcy qi) (ak := [.ty 9, .ty 9]) (rts := [4]) (dir := true) ok (Zjk qi h0) hK Try.func66 Zjp fun a r hr => ?_
  obtain ⟨n, hn⟩ := h a r hr
  exact ⟨n, ZeS qi n, (Zaj (show Zam 0 (Zab Try.f66) = [] by kernel_rfl)), (ZjL qi n a).trans hn⟩
def ZaV (n : Nat) (p0 : List UInt8) (p1 : List UInt8) : Option Bool :=
  Option.bind (cond (decide ((p0.length : Int) ≥ (p1.length : Int))) (ZpL p0 (0 : Int) (p1.length : Int)) (some [])) fun s1 =>
  Option.bind (some (cond (decide ((p0.length : Int) ≥ (p1.length : Int))) (s1 == p1) false)) fun m2 =>
  some m2
abbrev ZeO : List (Nat × TCall X) := []
noncomputable abbrev ZaO : Cx := ⟨C, U, ZeO , [], fun _ => []⟩
theorem ZeD : okF (C.ann 77) Try.f77 2 = true := by kernel_rfl
noncomputable abbrev ZbK (n : Nat) : ZdW (ZaO ) (PX X [4]) := []
theorem ZeR (n : Nat) : ∀ a, fnL (ZaO ) true 77 Try.f77 [.ty 9, .ty 9] [4] (ZbK n) a = ZaV n a.1 a.2 := by
  intro a
  kernel_rfl
theorem ZeM {K : Zaa} : CallsOk (ZaO ) (Zac C K) :=
  ⟨Zap, Zao⟩
theorem Zdz {K : Zaa} (hK : ∀ args h, K 77 args h = none) (t : PX X (AK.tys [.ty 9, .ty 9]) → Option (PX X [4])) (h : ∀ a r, t a = some r → ∃ n, ZaV n a.1 a.2 = some r) : Zag U (Zac C K) 77 ⟨true, [.ty 9, .ty 9], [4], t⟩ := by
  refine Zan (x := ZaO ) (ak := [.ty 9, .ty 9]) (rts := [4]) (dir := true) ok (ZeM ) hK Try.func77 ZeD fun a r hr => ?_
  obtain ⟨n, hn⟩ := h a r hr
  exact ⟨n, ZbK n, (Zaj (show Zam 0 (Zab Try.f77) = [] by kernel_rfl)), (ZeR n a).trans hn⟩
def ZgG (qj : T1h) (n : Nat) (p0 : List UInt8) : Option Bool :=
  Option.bind (qj (p0, [45, 45])) fun r1 =>
  Option.bind (some (cond r1 (decide ((p0.length : Int) > (2 : Int))) false)) fun m2 =>
  Option.bind (some (cond m2 (decide ((p0.length : Int) ≤ (64 : Int))) false)) fun m3 =>
  some m3
abbrev Zqu (qj : T1h) : List (Nat × TCall X) := [(66, ⟨true, [.ty 9, .ty 9], [4], qj⟩)]
noncomputable abbrev Ze6 (qj : T1h) : Cx := ⟨C, U, Zqu qj, [], fun _ => []⟩
theorem Zn6 : okF (C.ann 42) Try.f42 1 = true := by kernel_rfl
noncomputable abbrev Zhg (qj : T1h) (n : Nat) : ZdW (Ze6 qj) (PX X [4]) := []
theorem Zqm (qj : T1h) (n : Nat) : ∀ a, fnL (Ze6 qj) true 42 Try.f42 [.ty 9] [4] (Zhg qj n) a = ZgG qj n a := by
  intro a
  kernel_rfl
theorem ZoU {K : Zaa} (qj : T1h) (h0 : P1j K qj) : CallsOk (Ze6 qj) (Zac C K) :=
  ⟨(Zad h0 Zap), Zao⟩
theorem ZkN {K : Zaa} (hK : ∀ args h, K 42 args h = none) (qj : T1h) (h0 : P1j K qj) (t : PX X (AK.tys [.ty 9]) → Option (PX X [4])) (h : ∀ a r, t a = some r → ∃ n, ZgG qj n a = some r) : Zag U (Zac C K) 42 ⟨true, [.ty 9], [4], t⟩ := by
  refine Zan (x := Ze6 qj) (ak := [.ty 9]) (rts := [4]) (dir := true) ok (ZoU qj h0) hK Try.func42 Zn6 fun a r hr => ?_
  obtain ⟨n, hn⟩ := h a r hr
  exact ⟨n, Zhg qj n, (Zaj (show Zam 0 (Zab Try.f42) = [] by kernel_rfl)), (Zqm qj n a).trans hn⟩
def Zgq (n : Nat) (p0 : List UInt8) : Option Bool :=
  Option.bind (some (cond (decide ((p0.length : Int) > (2 : Int))) (decide ((p0.length : Int) ≤ (64 : Int))) false)) fun m1 =>
  Option.bind (cond m1 (ZpL p0 (0 : Int) (2 : Int)) (some [])) fun s2 =>
  Option.bind (some (cond m1 (s2 == [45, 45]) false)) fun m3 =>
  some m3
abbrev ZpE : List (Nat × TCall X) := []
noncomputable abbrev Zfc : Cx := ⟨C, U, ZpE , [], fun _ => []⟩
theorem Zpy : okF (C.ann 45) Try.f45 1 = true := by kernel_rfl
noncomputable abbrev ZgV (n : Nat) : ZdW (Zfc ) (PX X [4]) := []
theorem ZpO (n : Nat) : ∀ a, fnL (Zfc ) true 45 Try.f45 [.ty 9] [4] (ZgV n) a = Zgq n a := by
  intro a
  kernel_rfl
theorem ZoO {K : Zaa} : CallsOk (Zfc ) (Zac C K) :=
  ⟨Zap, Zao⟩
theorem Zk4 {K : Zaa} (hK : ∀ args h, K 45 args h = none) (t : PX X (AK.tys [.ty 9]) → Option (PX X [4])) (h : ∀ a r, t a = some r → ∃ n, Zgq n a = some r) : Zag U (Zac C K) 45 ⟨true, [.ty 9], [4], t⟩ := by
  refine Zan (x := Zfc ) (ak := [.ty 9]) (rts := [4]) (dir := true) ok (ZoO ) hK Try.func45 Zpy fun a r hr => ?_
  obtain ⟨n, hn⟩ := h a r hr
  exact ⟨n, ZgV n, (Zaj (show Zam 0 (Zab Try.f45) = [] by kernel_rfl)), (ZpO n a).trans hn⟩
def Ze5 {R : Type} (n : Nat) (a2 : List UInt8) (a3 : Nat) (a8 : Nat) (a9 : Int) (kx0 : List Int → Option R) (y10 : Int) (h1 : List Int) (k : Int → List Int → Option R) : Option R :=
  cond (decide (y10 < a9))
  (Option.bind (if 0 ≤ y10 ∧ y10 < a8 ∧ y10 < h1.length then some y10.toNat else none) fun i3 =>
  Option.bind (h1[i3]?) fun e4 =>
  Option.bind (some (cond (decide (e4 ≥ (65 : Int))) (decide (e4 ≤ (90 : Int))) false)) fun m5 =>
  Option.bind (cond m5 (if 0 ≤ y10 ∧ y10 < a3 ∧ y10 < h1.length then some y10.toNat else none) (some 0)) fun i6 =>
  Option.bind (cond m5 (if i6 < h1.length then some (h1.set i6 (IntKind.u8.wrap ((IntKind.u8.wrap (e4 + (97 : Int))) - (65 : Int)))) else none) (some h1)) fun a7 =>
  Option.bind (some (cond m5 a7 h1)) fun m8 =>
  k (IntKind.i64.wrap (y10 + (1 : Int))) m8)
  (kx0 h1)
def Zhu (n : Nat) (p0 : List UInt8) : Option (List UInt8) :=
  ZcS (Ze5 n [] p0.length p0.length (p0.length : Int) (fun z1 =>
  Option.bind (if p0.length ≤ z1.length then some (Zl9 (z1.take p0.length)) else none) fun s2 =>
  some s2)) n (0 : Int) (Zgg p0)
abbrev Zso : List (Nat × TCall X) := []
noncomputable abbrev Zcr : Cx := ⟨C, U, Zso , [], fun _ => []⟩
theorem Zqc : okF (C.ann 52) Try.f52 1 = true := by kernel_rfl
abbrev short_small_L0_D : LD := ⟨0, [.val 2 9, .osl 3 0 5, .osl 8 0 5, .val 9 2], [.val 10 2, .harr false 5], [(0, [.harr false 5])], []⟩
abbrev ZdY (n : Nat) : LG U (PX X [9]) short_small_L0_D := fun c kx kr y k => Ze5 n c.1 c.2.1 c.2.2.1 c.2.2.2.1 (fun z0 => kx 0 (z0, ())) y.1 y.2.1 (fun z0 z1 => k (z0, z1, ()))
noncomputable abbrev ZdU (n : Nat) : ZdW (Zcr ) (PX X [9]) := [(0, Zca U short_small_L0_D (ZdY n) n)]
theorem ZnE (n : Nat) : ∀ c kx kr y k1, evL (Zcr ) (ann 52) (ZdU n) 0 (Zaf (Zab Try.f52) 0) (ZbY U short_small_L0_D kx kr k1) (encS U short_small_L0_D.cap short_small_L0_D.din c y) = ZdY n c (fun i z => kx i c z) kr y (fun y2 => k1 c y2) := by
  intro c kx kr y k1
  kernel_rfl
theorem Zr3 (n : Nat) : ∀ a, fnL (Zcr ) true 52 Try.f52 [.ty 9] [9] (ZdU n) a = Zhu n a := by
  intro a
  kernel_rfl
theorem Zjy {K : Zaa} : CallsOk (Zcr ) (Zac C K) :=
  ⟨Zap, Zao⟩
theorem ZkL {K : Zaa} (n : Nat) (b0 : Base) (bn0 : b0.nr ≤ 0) : Law (Zcr ) b0 (Zac C K) (ann 52) n (Zaf (Zab Try.f52) 0) (Zca U short_small_L0_D (ZdY n) n) :=
  Za6 (x := Zcr ) (id := 0) ok (Zjy ) (sums := ZdU n) (Zaj (show Zam 0 (Zaf (Zab Try.f52) 0) = [] by kernel_rfl)) short_small_L0_D bn0 (ZdY n) (ZnE n)
theorem Zmi {K : Zaa} (hK : ∀ args h, K 52 args h = none) (t : PX X (AK.tys [.ty 9]) → Option (PX X [9])) (h : ∀ a r, t a = some r → ∃ n, Zhu n a = some r) : Zag U (Zac C K) 52 ⟨true, [.ty 9], [9], t⟩ := by
  refine Zan (x := Zcr ) (ak := [.ty 9]) (rts := [9]) (dir := true) ok (Zjy ) hK Try.func52 Zqc fun a r hr => ?_
  obtain ⟨n, hn⟩ := h a r hr
  exact ⟨n, ZdU n, (ZaB (ids := [0]) (by kernel_rfl) (by decide) (fun i hi => by
    simp only [List.mem_cons, List.not_mem_nil, or_false] at hi
    rcases hi with rfl
    · exact Zay (c2 := Zaf (Zab Try.f52) 0) (by kernel_rfl) (by kernel_rfl) (ZkL _ _ (Nat.le_refl _))
    )), (Zr3 n a).trans hn⟩
def Zff {R : Type} (n : Nat) (a2 : List UInt8) (a3 : Nat) (kx0 : List Int → Option R) (y4 : Int) (h1 : List Int) (k : Int → List Int → Option R) : Option R :=
  cond (decide (y4 < (a3 : Int)))
  (Option.bind (if 0 ≤ y4 ∧ y4 < a3 ∧ y4 < h1.length then some y4.toNat else none) fun i3 =>
  Option.bind (h1[i3]?) fun e4 =>
  Option.bind (cond (decide (e4 ≥ (65 : Int))) (if 0 ≤ y4 ∧ y4 < a3 ∧ y4 < h1.length then some y4.toNat else none) (some 0)) fun i5 =>
  Option.bind (cond (decide (e4 ≥ (65 : Int))) (h1[i5]?) (some (0 : Int))) fun e6 =>
  Option.bind (some (cond (decide (e4 ≥ (65 : Int))) (decide (e6 ≤ (90 : Int))) false)) fun m7 =>
  Option.bind (cond m7 (if 0 ≤ y4 ∧ y4 < a3 ∧ y4 < h1.length then some y4.toNat else none) (some 0)) fun i8 =>
  Option.bind (cond m7 (h1[i8]?) (some (0 : Int))) fun e9 =>
  Option.bind (cond m7 (if 0 ≤ y4 ∧ y4 < a3 ∧ y4 < h1.length then some y4.toNat else none) (some 0)) fun i10 =>
  Option.bind (cond m7 (if i10 < h1.length then some (h1.set i10 (IntKind.u8.wrap (e9 + (32 : Int)))) else none) (some h1)) fun a11 =>
  Option.bind (some (cond m7 a11 h1)) fun m12 =>
  k (IntKind.i64.wrap (y4 + (1 : Int))) m12)
  (kx0 h1)
def ZhG (n : Nat) (p0 : List UInt8) : Option (List UInt8) :=
  ZcS (Zff n [] p0.length (fun z1 =>
  Option.bind (if p0.length ≤ z1.length then some (Zl9 (z1.take p0.length)) else none) fun s2 =>
  some s2)) n (0 : Int) (Zgg p0)
abbrev Zsl : List (Nat × TCall X) := []
noncomputable abbrev Zcn : Cx := ⟨C, U, Zsl , [], fun _ => []⟩
theorem Zp1 : okF (C.ann 53) Try.f53 1 = true := by kernel_rfl
abbrev ref26_Small_L0_D : LD := ⟨0, [.val 2 9, .osl 3 0 5], [.val 4 2, .harr false 5], [(0, [.harr false 5])], []⟩
abbrev ZdK (n : Nat) : LG U (PX X [9]) ref26_Small_L0_D := fun c kx kr y k => Zff n c.1 c.2.1 (fun z0 => kx 0 (z0, ())) y.1 y.2.1 (fun z0 z1 => k (z0, z1, ()))
noncomputable abbrev ZdH (n : Nat) : ZdW (Zcn ) (PX X [9]) := [(0, Zca U ref26_Small_L0_D (ZdK n) n)]
theorem ZnJ (n : Nat) : ∀ c kx kr y k1, evL (Zcn ) (ann 53) (ZdH n) 0 (Zaf (Zab Try.f53) 0) (ZbY U ref26_Small_L0_D kx kr k1) (encS U ref26_Small_L0_D.cap ref26_Small_L0_D.din c y) = ZdK n c (fun i z => kx i c z) kr y (fun y2 => k1 c y2) := by
  intro c kx kr y k1
  kernel_rfl
theorem Zry (n : Nat) : ∀ a, fnL (Zcn ) true 53 Try.f53 [.ty 9] [9] (ZdH n) a = ZhG n a := by
  intro a
  kernel_rfl
theorem ZjG {K : Zaa} : CallsOk (Zcn ) (Zac C K) :=
  ⟨Zap, Zao⟩
theorem Zlq {K : Zaa} (n : Nat) (b0 : Base) (bn0 : b0.nr ≤ 0) : Law (Zcn ) b0 (Zac C K) (ann 53) n (Zaf (Zab Try.f53) 0) (Zca U ref26_Small_L0_D (ZdK n) n) :=
  Za6 (x := Zcn ) (id := 0) ok (ZjG ) (sums := ZdH n) (Zaj (show Zam 0 (Zaf (Zab Try.f53) 0) = [] by kernel_rfl)) ref26_Small_L0_D bn0 (ZdK n) (ZnJ n)
theorem ZlJ {K : Zaa} (hK : ∀ args h, K 53 args h = none) (t : PX X (AK.tys [.ty 9]) → Option (PX X [9])) (h : ∀ a r, t a = some r → ∃ n, ZhG n a = some r) : Zag U (Zac C K) 53 ⟨true, [.ty 9], [9], t⟩ := by
  refine Zan (x := Zcn ) (ak := [.ty 9]) (rts := [9]) (dir := true) ok (ZjG ) hK Try.func53 Zp1 fun a r hr => ?_
  obtain ⟨n, hn⟩ := h a r hr
  exact ⟨n, ZdH n, (ZaB (ids := [0]) (by kernel_rfl) (by decide) (fun i hi => by
    simp only [List.mem_cons, List.not_mem_nil, or_false] at hi
    rcases hi with rfl
    · exact Zay (c2 := Zaf (Zab Try.f53) 0) (by kernel_rfl) (by kernel_rfl) (Zlq _ _ (Nat.le_refl _))
    )), (Zry n a).trans hn⟩
end Go.Tev.S1
namespace Go.Tev.S1
open Go.Abs Go.Proofs
abbrev T2a : Type := (List UInt8) → Option (List UInt8)
abbrev T2b : Type := (List Val) → Option Bool
abbrev T2c : Type := (List Val) → Option Int
abbrev T2d : Type := Val → Option Bool
abbrev T2e : Type := (List Val) → Option (List Val)
abbrev T2f : Type := (List UInt8) → Option Bool
abbrev P2a (K : Zaa) (t : T2a) : Prop := Zag U (Zac C K) 52 ⟨true, [.ty 9], [9], t⟩
abbrev P2b (K : Zaa) (t : T2b) : Prop := Zag U (Zac C K) 29 ⟨true, [.ty 33], [4], t⟩
abbrev P2c (K : Zaa) (t : T2c) : Prop := Zag U (Zac C K) 70 ⟨true, [.ty 33, .fn 51], [3], t⟩
abbrev P2d (K : Zaa) (t : T2d) : Prop := Zag U (Zac C K) 51 ⟨true, [.ty 60], [4], t⟩
abbrev P2e (K : Zaa) (t : T2b) : Prop := Zag U (Zac C K) 50 ⟨true, [.ty 33, .fn 51], [4], t⟩
abbrev P2f (K : Zaa) (t : T2a) : Prop := Zag U (Zac C K) 53 ⟨true, [.ty 9], [9], t⟩
abbrev P2g (K : Zaa) (t : T2b) : Prop := Zag U (Zac C K) 31 ⟨true, [.ty 33], [4], t⟩
abbrev P2h (K : Zaa) (t : T2e) : Prop := Zag U (Zac C K) 13 ⟨true, [.ty 33], [33], t⟩
abbrev P2i (K : Zaa) (t : T2c) : Prop := Zag U (Zac C K) 30 ⟨true, [.ty 33], [3], t⟩
abbrev P2j (K : Zaa) (t : T2c) : Prop := Zag U (Zac C K) 32 ⟨true, [.ty 33], [3], t⟩
abbrev P2m (K : Zaa) (t : T2e) : Prop := Zag U (Zac C K) 71 ⟨true, [.ty 33], [33], t⟩
abbrev P2n (K : Zaa) (t : T2f) : Prop := Zag U (Zac C K) 42 ⟨true, [.ty 9], [4], t⟩
abbrev P2o (K : Zaa) (t : T2e) : Prop := Zag U (Zac C K) 72 ⟨true, [.ty 33], [33], t⟩
abbrev P2p (K : Zaa) (t : T2f) : Prop := Zag U (Zac C K) 45 ⟨true, [.ty 9], [4], t⟩
abbrev P2q (K : Zaa) (t : T2e) : Prop := Zag U (Zac C K) 76 ⟨true, [.ty 33], [33], t⟩
def Zho (qa : T2a) (qb : T2b) (n : Nat) (p0 : Val) : Option Bool :=
  Option.bind (cond (p0.tok.k == (2 : Int)) (qa p0.tok.t) (some [])) fun r1 =>
  Option.bind (some (cond (p0.tok.k == (2 : Int)) (r1 == [118, 97, 114]) false)) fun m2 =>
  Option.bind (cond (!m2) (qb p0.l) (some false)) fun r3 =>
  Option.bind (some (cond m2 true r3)) fun m4 =>
  some m4
abbrev ZrE (qa : T2a) (qb : T2b) : List (Nat × TCall X) := [(52, ⟨true, [.ty 9], [9], qa⟩), (29, ⟨true, [.ty 33], [4], qb⟩)]
noncomputable abbrev ZfU (qa : T2a) (qb : T2b) : Cx := ⟨C, U, ZrE qa qb, [], fun _ => []⟩
theorem Zqd : okF (C.ann 51) Try.f51 1 = true := by kernel_rfl
noncomputable abbrev ZhT (qa : T2a) (qb : T2b) (n : Nat) : ZdW (ZfU qa qb) (PX X [4]) := []
theorem Zth (qa : T2a) (qb : T2b) (n : Nat) : ∀ a, fnL (ZfU qa qb) true 51 Try.f51 [.ty 60] [4] (ZhT qa qb n) a = Zho qa qb n a := by
  intro a
  kernel_rfl
theorem Zqs {K : Zaa} (qa : T2a) (qb : T2b) (h0 : P2a K qa) (h1 : P2b K qb) : CallsOk (ZfU qa qb) (Zac C K) :=
  ⟨(Zad h0 (Zad h1 Zap)), Zao⟩
theorem ZlL {K : Zaa} (hK : ∀ args h, K 51 args h = none) (qa : T2a) (qb : T2b) (h0 : P2a K qa) (h1 : P2b K qb) (t : PX X (AK.tys [.ty 60]) → Option (PX X [4])) (h : ∀ a r, t a = some r → ∃ n, Zho qa qb n a = some r) : Zag U (Zac C K) 51 ⟨true, [.ty 60], [4], t⟩ := by
  refine Zan (x := ZfU qa qb) (ak := [.ty 60]) (rts := [4]) (dir := true) ok (Zqs qa qb h0 h1) hK Try.func51 Zqd fun a r hr => ?_
  obtain ⟨n, hn⟩ := h a r hr
  exact ⟨n, ZhT qa qb n, (Zaj (show Zam 0 (Zab Try.f51) = [] by kernel_rfl)), (Zth qa qb n a).trans hn⟩
def ZaD (qc : T2c) (n : Nat) (p0 : List Val) : Option Bool :=
  Option.bind (qc p0) fun r1 =>
  some (decide (r1 ≥ (0 : Int)))
abbrev ZbE (qc : T2c) : List (Nat × TCall X) := [(70, ⟨true, [.ty 33, .fn 51], [3], qc⟩)]
noncomputable abbrev Zar (qc : T2c) : Cx := ⟨C, U, ZbE qc, [], fun _ => []⟩
theorem ZbB : okF (C.ann 50) Try.f50 2 = true := by kernel_rfl
noncomputable abbrev ZaK (qc : T2c) (n : Nat) : ZdW (Zar qc) (PX X [4]) := []
theorem ZbF (qc : T2c) (n : Nat) : ∀ a, fnL (Zar qc) true 50 Try.f50 [.ty 33, .fn 51] [4] (ZaK qc n) a = ZaD qc n a := by
  intro a
  kernel_rfl
theorem Zbx {K : Zaa} (qc : T2c) (h0 : P2c K qc) : CallsOk (Zar qc) (Zac C K) :=
  ⟨(Zad h0 Zap), Zao⟩
theorem Zbl {K : Zaa} (hK : ∀ args h, K 50 args h = none) (qc : T2c) (h0 : P2c K qc) (t : PX X (AK.tys [.ty 33, .fn 51]) → Option (PX X [4])) (h : ∀ a r, t a = some r → ∃ n, ZaD qc n a = some r) : Zag U (Zac C K) 50 ⟨true, [.ty 33, .fn 51], [4], t⟩ := by
  refine Zan (x := Zar qc) (ak := [.ty 33, .fn 51]) (rts := [4]) (dir := true) ok (Zbx qc h0) hK Try.func50 ZbB fun a r hr => ?_
  obtain ⟨n, hn⟩ := h a r hr
  exact ⟨n, ZaK qc n, (Zaj (show Zam 0 (Zab Try.f50) = [] by kernel_rfl)), (ZbF qc n a).trans hn⟩
def Zau (qd : T2d) {R : Type} (n : Nat) (a0 : List Val) (_ : Unit) (a7 : Int) (kx0 : Int → Option R) (kr : Int → Option R) (y4 : Int) (y8 : Int) (k : Int → Int → Option R) : Option R :=
  cond (decide (y8 < a7))
  (Option.bind (Zbt a0 y8) fun x3 =>
  Option.bind (qd (Val.mk x3.tok x3.l)) fun r4 =>
  cond r4
  (kr y8)
  (k y4 (IntKind.i64.wrap (y8 + (1 : Int)))))
  (kx0 y4)
def Zax (qd : T2d) (n : Nat) (p0 : List Val) : Option Int :=
  ZcS (Zau qd n p0 () (p0.length : Int) (fun z1 =>
  some (-1 : Int)) (fun z2 =>
  some z2)) n (0 : Int) (0 : Int)
abbrev ZbU (qd : T2d) : List (Nat × TCall X) := [(51, ⟨true, [.ty 60], [4], qd⟩)]
noncomputable abbrev Zai (qd : T2d) : Cx := ⟨C, U, ZbU qd, [], fun _ => []⟩
theorem ZbN : okF (C.ann 70) Try.f70 2 = true := by kernel_rfl
abbrev slices_IndexFuncapi_Value_api_Value_short_Var_1_L0_D : LD := ⟨0, [.val 0 33, .fn 1 51, .val 7 2], [.val 4 2, .val 8 2], [(0, [.val 4 2])], [.val 4 3]⟩
abbrev Zas (qd : T2d) (n : Nat) : LG U (PX X [3]) slices_IndexFuncapi_Value_api_Value_short_Var_1_L0_D := fun c kx kr y k => Zau qd n c.1 c.2.1 c.2.2.1 (fun z0 => kx 0 (z0, ())) (fun z0 => kr (z0, ())) y.1 y.2.1 (fun z0 z1 => k (z0, z1, ()))
noncomputable abbrev Zat (qd : T2d) (n : Nat) : ZdW (Zai qd) (PX X [3]) := [(0, Zca U slices_IndexFuncapi_Value_api_Value_short_Var_1_L0_D (Zas qd n) n)]
theorem ZbG (qd : T2d) (n : Nat) : ∀ c kx kr y k1, evL (Zai qd) (ann 70) (Zat qd n) 0 (Zaf (Zab Try.f70) 0) (ZbY U slices_IndexFuncapi_Value_api_Value_short_Var_1_L0_D kx kr k1) (encS U slices_IndexFuncapi_Value_api_Value_short_Var_1_L0_D.cap slices_IndexFuncapi_Value_api_Value_short_Var_1_L0_D.din c y) = Zas qd n c (fun i z => kx i c z) kr y (fun y2 => k1 c y2) := by
  intro c kx kr y k1
  kernel_rfl
theorem ZbR (qd : T2d) (n : Nat) : ∀ a, fnL (Zai qd) true 70 Try.f70 [.ty 33, .fn 51] [3] (Zat qd n) a = Zax qd n a := by
  intro a
  kernel_rfl
theorem ZaS {K : Zaa} (qd : T2d) (h0 : P2d K qd) : CallsOk (Zai qd) (Zac C K) :=
  ⟨(Zad h0 Zap), Zao⟩
theorem Zbu {K : Zaa} (qd : T2d) (h0 : P2d K qd) (n : Nat) (b0 : Base) (bn0 : b0.nr ≤ 0) : Law (Zai qd) b0 (Zac C K) (ann 70) n (Zaf (Zab Try.f70) 0) (Zca U slices_IndexFuncapi_Value_api_Value_short_Var_1_L0_D (Zas qd n) n) :=
  Za6 (x := Zai qd) (id := 0) ok (ZaS qd h0) (sums := Zat qd n) (Zaj (show Zam 0 (Zaf (Zab Try.f70) 0) = [] by kernel_rfl)) slices_IndexFuncapi_Value_api_Value_short_Var_1_L0_D bn0 (Zas qd n) (ZbG qd n)
theorem Zbw {K : Zaa} (hK : ∀ args h, K 70 args h = none) (qd : T2d) (h0 : P2d K qd) (t : PX X (AK.tys [.ty 33, .fn 51]) → Option (PX X [3])) (h : ∀ a r, t a = some r → ∃ n, Zax qd n a = some r) : Zag U (Zac C K) 70 ⟨true, [.ty 33, .fn 51], [3], t⟩ := by
  refine Zan (x := Zai qd) (ak := [.ty 33, .fn 51]) (rts := [3]) (dir := true) ok (ZaS qd h0) hK Try.func70 ZbN fun a r hr => ?_
  obtain ⟨n, hn⟩ := h a r hr
  exact ⟨n, Zat qd n, (ZaB (ids := [0]) (by kernel_rfl) (by decide) (fun i hi => by
    simp only [List.mem_cons, List.not_mem_nil, or_false] at hi
    rcases hi with rfl
    · exact Zay (c2 := Zaf (Zab Try.f70) 0) (by kernel_rfl) (by kernel_rfl) (Zbu qd h0 _ _ (Nat.le_refl _))
    )), (ZbR qd n a).trans hn⟩
def Zo6 (qe : T2b) (n : Nat) (p0 : List Val) : Option Bool :=
  Option.bind (qe p0) fun r1 =>
  some r1
abbrev ZwV (qe : T2b) : List (Nat × TCall X) := [(50, ⟨true, [.ty 33, .fn 51], [4], qe⟩)]
noncomputable abbrev ZhQ (qe : T2b) : Cx := ⟨C, U, ZwV qe, [], fun _ => []⟩
theorem ZuT : okF (C.ann 29) Try.f29 1 = true := by kernel_rfl
noncomputable abbrev ZjD (qe : T2b) (n : Nat) : ZdW (ZhQ qe) (PX X [4]) := []
theorem ZvU (qe : T2b) (n : Nat) : ∀ a, fnL (ZhQ qe) true 29 Try.f29 [.ty 33] [4] (ZjD qe n) a = Zo6 qe n a := by
  intro a
  kernel_rfl
theorem Zux {K : Zaa} (qe : T2b) (h0 : P2e K qe) : CallsOk (ZhQ qe) (Zac C K) :=
  ⟨(Zad h0 Zap), Zao⟩
theorem Zoi {K : Zaa} (hK : ∀ args h, K 29 args h = none) (qe : T2b) (h0 : P2e K qe) (t : PX X (AK.tys [.ty 33]) → Option (PX X [4])) (h : ∀ a r, t a = some r → ∃ n, Zo6 qe n a = some r) : Zag U (Zac C K) 29 ⟨true, [.ty 33], [4], t⟩ := by
  refine Zan (x := ZhQ qe) (ak := [.ty 33]) (rts := [4]) (dir := true) ok (Zux qe h0) hK Try.func29 ZuT fun a r hr => ?_
  obtain ⟨n, hn⟩ := h a r hr
  exact ⟨n, ZjD qe n, (Zaj (show Zam 0 (Zab Try.f29) = [] by kernel_rfl)), (ZvU qe n a).trans hn⟩
def ZgJ (qf : T2a) (qg : T2b) {R : Type} (n : Nat) (a0 : List Val) (kx0 : Bool → Option R) (kr : Bool → Option R) (y2 : Bool) (y3 : Int) (k : Bool → Int → Option R) : Option R :=
  cond (decide (y3 < (a0.length : Int)))
  (Option.bind (Zbt a0 y3) fun x3 =>
  Option.bind (cond (x3.tok.k == (2 : Int)) (qf x3.tok.t) (some [])) fun r4 =>
  Option.bind (some (cond (x3.tok.k == (2 : Int)) (r4 == [118, 97, 114]) false)) fun m5 =>
  Option.bind (cond (!m5) (Zbt a0 y3) (some ZsA)) fun x6 =>
  Option.bind (cond (!m5) (qg x6.l) (some false)) fun r7 =>
  Option.bind (some (cond m5 true r7)) fun m8 =>
  cond m8
  (kr true)
  (k y2 (IntKind.i64.wrap (y3 + (1 : Int)))))
  (kx0 y2)
def Zkq (qf : T2a) (qg : T2b) (n : Nat) (p0 : List Val) : Option Bool :=
  ZcS (ZgJ qf qg n p0 (fun z1 =>
  some false) (fun z2 =>
  some z2)) n false (0 : Int)
abbrev ZwA (qf : T2a) (qg : T2b) : List (Nat × TCall X) := [(53, ⟨true, [.ty 9], [9], qf⟩), (31, ⟨true, [.ty 33], [4], qg⟩)]
noncomputable abbrev Zd0 (qf : T2a) (qg : T2b) : Cx := ⟨C, U, ZwA qf qg, [], fun _ => []⟩
theorem Zug : okF (C.ann 31) Try.f31 1 = true := by kernel_rfl
abbrev ref27_Var_L0_D : LD := ⟨0, [.val 0 33], [.val 2 4, .val 3 2], [(0, [.val 2 4])], [.val 2 4]⟩
abbrev Zfk (qf : T2a) (qg : T2b) (n : Nat) : LG U (PX X [4]) ref27_Var_L0_D := fun c kx kr y k => ZgJ qf qg n c.1 (fun z0 => kx 0 (z0, ())) (fun z0 => kr (z0, ())) y.1 y.2.1 (fun z0 z1 => k (z0, z1, ()))
noncomputable abbrev Zfi (qf : T2a) (qg : T2b) (n : Nat) : ZdW (Zd0 qf qg) (PX X [4]) := [(0, Zca U ref27_Var_L0_D (Zfk qf qg n) n)]
theorem Zqf (qf : T2a) (qg : T2b) (n : Nat) : ∀ c kx kr y k1, evL (Zd0 qf qg) (ann 31) (Zfi qf qg n) 0 (Zaf (Zab Try.f31) 0) (ZbY U ref27_Var_L0_D kx kr k1) (encS U ref27_Var_L0_D.cap ref27_Var_L0_D.din c y) = Zfk qf qg n c (fun i z => kx i c z) kr y (fun y2 => k1 c y2) := by
  intro c kx kr y k1
  kernel_rfl
theorem ZwN (qf : T2a) (qg : T2b) (n : Nat) : ∀ a, fnL (Zd0 qf qg) true 31 Try.f31 [.ty 33] [4] (Zfi qf qg n) a = Zkq qf qg n a := by
  intro a
  kernel_rfl
theorem ZmS {K : Zaa} (qf : T2a) (qg : T2b) (h0 : P2f K qf) (h1 : P2g K qg) : CallsOk (Zd0 qf qg) (Zac C K) :=
  ⟨(Zad h0 (Zad h1 Zap)), Zao⟩
theorem ZnF {K : Zaa} (qf : T2a) (qg : T2b) (h0 : P2f K qf) (h1 : P2g K qg) (n : Nat) (b0 : Base) (bn0 : b0.nr ≤ 0) : Law (Zd0 qf qg) b0 (Zac C K) (ann 31) n (Zaf (Zab Try.f31) 0) (Zca U ref27_Var_L0_D (Zfk qf qg n) n) :=
  Za6 (x := Zd0 qf qg) (id := 0) ok (ZmS qf qg h0 h1) (sums := Zfi qf qg n) (Zaj (show Zam 0 (Zaf (Zab Try.f31) 0) = [] by kernel_rfl)) ref27_Var_L0_D bn0 (Zfk qf qg n) (Zqf qf qg n)
theorem Zpm {K : Zaa} (hK : ∀ args h, K 31 args h = none) (qf : T2a) (qg : T2b) (h0 : P2f K qf) (h1 : P2g K qg) (t : PX X (AK.tys [.ty 33]) → Option (PX X [4])) (h : ∀ a r, t a = some r → ∃ n, Zkq qf qg n a = some r) : Zag U (Zac C K) 31 ⟨true, [.ty 33], [4], t⟩ := by
  refine Zan (x := Zd0 qf qg) (ak := [.ty 33]) (rts := [4]) (dir := true) ok (ZmS qf qg h0 h1) hK Try.func31 Zug fun a r hr => ?_
  obtain ⟨n, hn⟩ := h a r hr
  exact ⟨n, Zfi qf qg n, (ZaB (ids := [0]) (by kernel_rfl) (by decide) (fun i hi => by
    simp only [List.mem_cons, List.not_mem_nil, or_false] at hi
    rcases hi with rfl
    · exact Zay (c2 := Zaf (Zab Try.f31) 0) (by kernel_rfl) (by kernel_rfl) (ZnF qf qg h0 h1 _ _ (Nat.le_refl _))
    )), (ZwN qf qg n a).trans hn⟩
def ZfF (qh : T2e) {R : Type} (n : Nat) (a0 : List Val) (a2 : List Val) (kx0 : List Val → Option R) (y3 : List Val) (y4 : Int) (k : List Val → Int → Option R) : Option R :=
  cond (decide (y4 < (a0.length : Int)))
  (Option.bind (Zbt a0 y4) fun x2 =>
  Option.bind (Zbt a0 y4) fun x3 =>
  Option.bind (qh x3.l) fun r4 =>
  Option.bind (Option.bind (room 80 (y3.length + [(Val.mk x2.tok r4)].length)) (fun _ => some (y3 ++ [(Val.mk x2.tok r4)]))) fun o5 =>
  k o5 (IntKind.i64.wrap (y4 + (1 : Int))))
  (kx0 y3)
def Zjh (qh : T2e) (n : Nat) (p0 : List Val) : Option (List Val) :=
  ZcS (ZfF qh n p0 [] (fun z1 =>
  some z1)) n [] (0 : Int)
abbrev Zu9 (qh : T2e) : List (Nat × TCall X) := [(13, ⟨true, [.ty 33], [33], qh⟩)]
noncomputable abbrev ZcW (qh : T2e) : Cx := ⟨C, U, Zu9 qh, [], fun _ => []⟩
theorem Zr6 : okF (C.ann 13) Try.f13 1 = true := by kernel_rfl
abbrev ref26_Twin_L0_D : LD := ⟨0, [.val 0 33, .val 2 33], [.own 3 60, .val 4 2], [(0, [.own 3 60])], []⟩
abbrev ZeG (qh : T2e) (n : Nat) : LG U (PX X [33]) ref26_Twin_L0_D := fun c kx kr y k => ZfF qh n c.1 c.2.1 (fun z0 => kx 0 (z0, ())) y.1 y.2.1 (fun z0 z1 => k (z0, z1, ()))
noncomputable abbrev Zex (qh : T2e) (n : Nat) : ZdW (ZcW qh) (PX X [33]) := [(0, Zca U ref26_Twin_L0_D (ZeG qh n) n)]
theorem Zpa (qh : T2e) (n : Nat) : ∀ c kx kr y k1, evL (ZcW qh) (ann 13) (Zex qh n) 0 (Zaf (Zab Try.f13) 0) (ZbY U ref26_Twin_L0_D kx kr k1) (encS U ref26_Twin_L0_D.cap ref26_Twin_L0_D.din c y) = ZeG qh n c (fun i z => kx i c z) kr y (fun y2 => k1 c y2) := by
  intro c kx kr y k1
  kernel_rfl
theorem Zvs (qh : T2e) (n : Nat) : ∀ a, fnL (ZcW qh) true 13 Try.f13 [.ty 33] [33] (Zex qh n) a = Zjh qh n a := by
  intro a
  kernel_rfl
theorem ZkW {K : Zaa} (qh : T2e) (h0 : P2h K qh) : CallsOk (ZcW qh) (Zac C K) :=
  ⟨(Zad h0 Zap), Zao⟩
theorem Zmq {K : Zaa} (qh : T2e) (h0 : P2h K qh) (n : Nat) (b0 : Base) (bn0 : b0.nr ≤ 0) : Law (ZcW qh) b0 (Zac C K) (ann 13) n (Zaf (Zab Try.f13) 0) (Zca U ref26_Twin_L0_D (ZeG qh n) n) :=
  Za6 (x := ZcW qh) (id := 0) ok (ZkW qh h0) (sums := Zex qh n) (Zaj (show Zam 0 (Zaf (Zab Try.f13) 0) = [] by kernel_rfl)) ref26_Twin_L0_D bn0 (ZeG qh n) (Zpa qh n)
theorem ZnI {K : Zaa} (hK : ∀ args h, K 13 args h = none) (qh : T2e) (h0 : P2h K qh) (t : PX X (AK.tys [.ty 33]) → Option (PX X [33])) (h : ∀ a r, t a = some r → ∃ n, Zjh qh n a = some r) : Zag U (Zac C K) 13 ⟨true, [.ty 33], [33], t⟩ := by
  refine Zan (x := ZcW qh) (ak := [.ty 33]) (rts := [33]) (dir := true) ok (ZkW qh h0) hK Try.func13 Zr6 fun a r hr => ?_
  obtain ⟨n, hn⟩ := h a r hr
  exact ⟨n, Zex qh n, (ZaB (ids := [0]) (by kernel_rfl) (by decide) (fun i hi => by
    simp only [List.mem_cons, List.not_mem_nil, or_false] at hi
    rcases hi with rfl
    · exact Zay (c2 := Zaf (Zab Try.f13) 0) (by kernel_rfl) (by kernel_rfl) (Zmq qh h0 _ _ (Nat.le_refl _))
    )), (Zvs qh n a).trans hn⟩
def Ze9 (qi : T2c) {R : Type} (n : Nat) (a2 : Int) (a6 : List Val) (a7 : Int) (kx0 : Int → Option R) (y3 : Int) (y8 : Int) (k : Int → Int → Option R) : Option R :=
  cond (decide (y8 < a7))
  (Option.bind (Zbt a6 y8) fun x2 =>
  Option.bind (qi x2.l) fun r3 =>
  k (IntKind.i64.wrap (y3 + (IntKind.i64.wrap ((IntKind.i64.wrap ((IntKind.i64.wrap ((1 : Int) + (x2.tok.t.length : Int))) + (x2.tok.u.length : Int))) + r3)))) (IntKind.i64.wrap (y8 + (1 : Int))))
  (kx0 y3)
def Zhs (qi : T2c) (n : Nat) (p0 : List Val) : Option Int :=
  ZcS (Ze9 qi n (0 : Int) p0 (p0.length : Int) (fun z1 =>
  some z1)) n (0 : Int) (0 : Int)
abbrev ZsC (qi : T2c) : List (Nat × TCall X) := [(30, ⟨true, [.ty 33], [3], qi⟩)]
noncomputable abbrev Zcg (qi : T2c) : Cx := ⟨C, U, ZsC qi, [], fun _ => []⟩
theorem ZpG : okF (C.ann 30) Try.f30 1 = true := by kernel_rfl
abbrev vars_length_L0_D : LD := ⟨0, [.val 2 2, .val 6 33, .val 7 2], [.val 3 2, .val 8 2], [(0, [.val 3 2])], []⟩
abbrev ZdD (qi : T2c) (n : Nat) : LG U (PX X [3]) vars_length_L0_D := fun c kx kr y k => Ze9 qi n c.1 c.2.1 c.2.2.1 (fun z0 => kx 0 (z0, ())) y.1 y.2.1 (fun z0 z1 => k (z0, z1, ()))
noncomputable abbrev ZdL (qi : T2c) (n : Nat) : ZdW (Zcg qi) (PX X [3]) := [(0, Zca U vars_length_L0_D (ZdD qi n) n)]
theorem Znx (qi : T2c) (n : Nat) : ∀ c kx kr y k1, evL (Zcg qi) (ann 30) (ZdL qi n) 0 (Zaf (Zab Try.f30) 0) (ZbY U vars_length_L0_D kx kr k1) (encS U vars_length_L0_D.cap vars_length_L0_D.din c y) = ZdD qi n c (fun i z => kx i c z) kr y (fun y2 => k1 c y2) := by
  intro c kx kr y k1
  kernel_rfl
theorem ZrK (qi : T2c) (n : Nat) : ∀ a, fnL (Zcg qi) true 30 Try.f30 [.ty 33] [3] (ZdL qi n) a = Zhs qi n a := by
  intro a
  kernel_rfl
theorem Zjt {K : Zaa} (qi : T2c) (h0 : P2i K qi) : CallsOk (Zcg qi) (Zac C K) :=
  ⟨(Zad h0 Zap), Zao⟩
theorem Zlx {K : Zaa} (qi : T2c) (h0 : P2i K qi) (n : Nat) (b0 : Base) (bn0 : b0.nr ≤ 0) : Law (Zcg qi) b0 (Zac C K) (ann 30) n (Zaf (Zab Try.f30) 0) (Zca U vars_length_L0_D (ZdD qi n) n) :=
  Za6 (x := Zcg qi) (id := 0) ok (Zjt qi h0) (sums := ZdL qi n) (Zaj (show Zam 0 (Zaf (Zab Try.f30) 0) = [] by kernel_rfl)) vars_length_L0_D bn0 (ZdD qi n) (Znx qi n)
theorem Zl4 {K : Zaa} (hK : ∀ args h, K 30 args h = none) (qi : T2c) (h0 : P2i K qi) (t : PX X (AK.tys [.ty 33]) → Option (PX X [3])) (h : ∀ a r, t a = some r → ∃ n, Zhs qi n a = some r) : Zag U (Zac C K) 30 ⟨true, [.ty 33], [3], t⟩ := by
  refine Zan (x := Zcg qi) (ak := [.ty 33]) (rts := [3]) (dir := true) ok (Zjt qi h0) hK Try.func30 ZpG fun a r hr => ?_
  obtain ⟨n, hn⟩ := h a r hr
  exact ⟨n, ZdL qi n, (ZaB (ids := [0]) (by kernel_rfl) (by decide) (fun i hi => by
    simp only [List.mem_cons, List.not_mem_nil, or_false] at hi
    rcases hi with rfl
    · exact Zay (c2 := Zaf (Zab Try.f30) 0) (by kernel_rfl) (by kernel_rfl) (Zlx qi h0 _ _ (Nat.le_refl _))
    )), (ZrK qi n a).trans hn⟩
def ZfQ (qj : T2c) {R : Type} (n : Nat) (a0 : List Val) (a2 : Int) (kx0 : Int → Option R) (y3 : Int) (y4 : Int) (k : Int → Int → Option R) : Option R :=
  cond (decide (y4 < (a0.length : Int)))
  (Option.bind (Zbt a0 y4) fun x2 =>
  Option.bind (Zbt a0 y4) fun x3 =>
  Option.bind (Zbt a0 y4) fun x4 =>
  Option.bind (qj x4.l) fun r5 =>
  k (IntKind.i64.wrap (y3 + (IntKind.i64.wrap ((IntKind.i64.wrap ((IntKind.i64.wrap ((1 : Int) + (x2.tok.t.length : Int))) + (x3.tok.u.length : Int))) + r5)))) (IntKind.i64.wrap (y4 + (1 : Int))))
  (kx0 y3)
def ZiH (qj : T2c) (n : Nat) (p0 : List Val) : Option Int :=
  ZcS (ZfQ qj n p0 (0 : Int) (fun z1 =>
  some z1)) n (0 : Int) (0 : Int)
abbrev ZvF (qj : T2c) : List (Nat × TCall X) := [(32, ⟨true, [.ty 33], [3], qj⟩)]
noncomputable abbrev ZcR (qj : T2c) : Cx := ⟨C, U, ZvF qj, [], fun _ => []⟩
theorem ZsB : okF (C.ann 32) Try.f32 1 = true := by kernel_rfl
abbrev ref30_Long_L0_D : LD := ⟨0, [.val 0 33, .val 2 2], [.val 3 2, .val 4 2], [(0, [.val 3 2])], []⟩
abbrev Zel (qj : T2c) (n : Nat) : LG U (PX X [3]) ref30_Long_L0_D := fun c kx kr y k => ZfQ qj n c.1 c.2.1 (fun z0 => kx 0 (z0, ())) y.1 y.2.1 (fun z0 z1 => k (z0, z1, ()))
noncomputable abbrev Zec (qj : T2c) (n : Nat) : ZdW (ZcR qj) (PX X [3]) := [(0, Zca U ref30_Long_L0_D (Zel qj n) n)]
theorem Zot (qj : T2c) (n : Nat) : ∀ c kx kr y k1, evL (ZcR qj) (ann 32) (Zec qj n) 0 (Zaf (Zab Try.f32) 0) (ZbY U ref30_Long_L0_D kx kr k1) (encS U ref30_Long_L0_D.cap ref30_Long_L0_D.din c y) = Zel qj n c (fun i z => kx i c z) kr y (fun y2 => k1 c y2) := by
  intro c kx kr y k1
  kernel_rfl
theorem Zvm (qj : T2c) (n : Nat) : ∀ a, fnL (ZcR qj) true 32 Try.f32 [.ty 33] [3] (Zec qj n) a = ZiH qj n a := by
  intro a
  kernel_rfl
theorem Zlg {K : Zaa} (qj : T2c) (h0 : P2j K qj) : CallsOk (ZcR qj) (Zac C K) :=
  ⟨(Zad h0 Zap), Zao⟩
theorem Zl0 {K : Zaa} (qj : T2c) (h0 : P2j K qj) (n : Nat) (b0 : Base) (bn0 : b0.nr ≤ 0) : Law (ZcR qj) b0 (Zac C K) (ann 32) n (Zaf (Zab Try.f32) 0) (Zca U ref30_Long_L0_D (Zel qj n) n) :=
  Za6 (x := ZcR qj) (id := 0) ok (Zlg qj h0) (sums := Zec qj n) (Zaj (show Zam 0 (Zaf (Zab Try.f32) 0) = [] by kernel_rfl)) ref30_Long_L0_D bn0 (Zel qj n) (Zot qj n)
theorem Znq {K : Zaa} (hK : ∀ args h, K 32 args h = none) (qj : T2c) (h0 : P2j K qj) (t : PX X (AK.tys [.ty 33]) → Option (PX X [3])) (h : ∀ a r, t a = some r → ∃ n, ZiH qj n a = some r) : Zag U (Zac C K) 32 ⟨true, [.ty 33], [3], t⟩ := by
  refine Zan (x := ZcR qj) (ak := [.ty 33]) (rts := [3]) (dir := true) ok (Zlg qj h0) hK Try.func32 ZsB fun a r hr => ?_
  obtain ⟨n, hn⟩ := h a r hr
  exact ⟨n, Zec qj n, (ZaB (ids := [0]) (by kernel_rfl) (by decide) (fun i hi => by
    simp only [List.mem_cons, List.not_mem_nil, or_false] at hi
    rcases hi with rfl
    · exact Zay (c2 := Zaf (Zab Try.f32) 0) (by kernel_rfl) (by kernel_rfl) (Zl0 qj h0 _ _ (Nat.le_refl _))
    )), (Zvm qj n a).trans hn⟩
def Zje (n : Nat) (p0 : Val) : Option Bool :=
  Option.bind (some (cond (p0.tok.k == (2 : Int)) ((p0.tok.t.length : Int) == (3 : Int)) false)) fun m1 =>
  Option.bind (cond m1 (Zbt p0.tok.t (0 : Int)) (some 0)) fun b2 =>
  Option.bind (some (cond m1 ((IntKind.u8.wrap (BitVec.ofInt (IntKind.u8).bits (b2.toNat : Int) ||| BitVec.ofInt (IntKind.u8).bits (32 : Int)).toNat) == (118 : Int)) false)) fun m3 =>
  Option.bind (cond m3 (Zbt p0.tok.t (1 : Int)) (some 0)) fun b4 =>
  Option.bind (some (cond m3 ((IntKind.u8.wrap (BitVec.ofInt (IntKind.u8).bits (b4.toNat : Int) ||| BitVec.ofInt (IntKind.u8).bits (32 : Int)).toNat) == (97 : Int)) false)) fun m5 =>
  Option.bind (cond m5 (Zbt p0.tok.t (2 : Int)) (some 0)) fun b6 =>
  Option.bind (some (cond m5 ((IntKind.u8.wrap (BitVec.ofInt (IntKind.u8).bits (b6.toNat : Int) ||| BitVec.ofInt (IntKind.u8).bits (32 : Int)).toNat) == (114 : Int)) false)) fun m7 =>
  some m7
abbrev ZuK : List (Nat × TCall X) := []
noncomputable abbrev Zgw : Cx := ⟨C, U, ZuK , [], fun _ => []⟩
theorem ZrT : okF (C.ann 55) Try.f55 1 = true := by kernel_rfl
noncomputable abbrev Zio (n : Nat) : ZdW (Zgw ) (PX X [4]) := []
theorem Ztt (n : Nat) : ∀ a, fnL (Zgw ) true 55 Try.f55 [.ty 60] [4] (Zio n) a = Zje n a := by
  intro a
  kernel_rfl
theorem ZrM {K : Zaa} : CallsOk (Zgw ) (Zac C K) :=
  ⟨Zap, Zao⟩
theorem Zns {K : Zaa} (hK : ∀ args h, K 55 args h = none) (t : PX X (AK.tys [.ty 60]) → Option (PX X [4])) (h : ∀ a r, t a = some r → ∃ n, Zje n a = some r) : Zag U (Zac C K) 55 ⟨true, [.ty 60], [4], t⟩ := by
  refine Zan (x := Zgw ) (ak := [.ty 60]) (rts := [4]) (dir := true) ok (ZrM ) hK Try.func55 ZrT fun a r hr => ?_
  obtain ⟨n, hn⟩ := h a r hr
  exact ⟨n, Zio n, (Zaj (show Zam 0 (Zab Try.f55) = [] by kernel_rfl)), (Ztt n a).trans hn⟩
def Zep (qf : T2a) (n : Nat) (p0 : Val) : Option Bool :=
  Option.bind (cond (p0.tok.k == (2 : Int)) (qf p0.tok.t) (some [])) fun r1 =>
  Option.bind (some (cond (p0.tok.k == (2 : Int)) (r1 == [118, 97, 114]) false)) fun m2 =>
  some m2
abbrev ZlQ (qf : T2a) : List (Nat × TCall X) := [(53, ⟨true, [.ty 9], [9], qf⟩)]
noncomputable abbrev Zc9 (qf : T2a) : Cx := ⟨C, U, ZlQ qf, [], fun _ => []⟩
theorem ZkG : okF (C.ann 60) Try.f60 1 = true := by kernel_rfl
noncomputable abbrev ZfB (qf : T2a) (n : Nat) : ZdW (Zc9 qf) (PX X [4]) := []
theorem ZmC (qf : T2a) (n : Nat) : ∀ a, fnL (Zc9 qf) true 60 Try.f60 [.ty 60] [4] (ZfB qf n) a = Zep qf n a := by
  intro a
  kernel_rfl
theorem ZkV {K : Zaa} (qf : T2a) (h0 : P2f K qf) : CallsOk (Zc9 qf) (Zac C K) :=
  ⟨(Zad h0 Zap), Zao⟩
theorem Zh8 {K : Zaa} (hK : ∀ args h, K 60 args h = none) (qf : T2a) (h0 : P2f K qf) (t : PX X (AK.tys [.ty 60]) → Option (PX X [4])) (h : ∀ a r, t a = some r → ∃ n, Zep qf n a = some r) : Zag U (Zac C K) 60 ⟨true, [.ty 60], [4], t⟩ := by
  refine Zan (x := Zc9 qf) (ak := [.ty 60]) (rts := [4]) (dir := true) ok (ZkV qf h0) hK Try.func60 ZkG fun a r hr => ?_
  obtain ⟨n, hn⟩ := h a r hr
  exact ⟨n, ZfB qf n, (Zaj (show Zam 0 (Zab Try.f60) = [] by kernel_rfl)), (ZmC qf n a).trans hn⟩
def ZgR {R : Type} (n : Nat) (a2 : List Val) (kx0 : List Val → Option R) (y0 : List Val) (k : List Val → Option R) : Option R :=
  Option.bind (cond (decide ((y0.length : Int) > (0 : Int))) (Zbt y0 (0 : Int)) (some ZsA)) fun x2 =>
  Option.bind (some (cond (decide ((y0.length : Int) > (0 : Int))) (x2.tok.k == (13 : Int)) false)) fun m3 =>
  cond m3
  (Option.bind (ZpL y0 (1 : Int) (y0.length : Int)) fun s4 =>
  k s4)
  (kx0 y0)
def ZhB (n : Nat) (p0 : List Val) : Option (List Val) :=
  Zll (ZgR n [] (fun z1 =>
  some z1)) n p0
abbrev Zrf : List (Nat × TCall X) := []
noncomputable abbrev Zcx : Cx := ⟨C, U, Zrf , [], fun _ => []⟩
theorem Zqo : okF (C.ann 71) Try.f71 1 = true := by kernel_rfl
abbrev vars_spaces_L0_D : LD := ⟨0, [.val 2 33], [.val 0 33], [(0, [.val 0 33])], []⟩
abbrev ZdE (n : Nat) : LG U (PX X [33]) vars_spaces_L0_D := fun c kx kr y k => ZgR n c.1 (fun z0 => kx 0 (z0, ())) y.1 (fun z0 => k (z0, ()))
noncomputable abbrev ZdN (n : Nat) : ZdW (Zcx ) (PX X [33]) := [(0, Zca U vars_spaces_L0_D (ZdE n) n)]
theorem Znj (n : Nat) : ∀ c kx kr y k1, evL (Zcx ) (ann 71) (ZdN n) 0 (Zaf (Zab Try.f71) 0) (ZbY U vars_spaces_L0_D kx kr k1) (encS U vars_spaces_L0_D.cap vars_spaces_L0_D.din c y) = ZdE n c (fun i z => kx i c z) kr y (fun y2 => k1 c y2) := by
  intro c kx kr y k1
  kernel_rfl
theorem ZrZ (n : Nat) : ∀ a, fnL (Zcx ) true 71 Try.f71 [.ty 33] [33] (ZdN n) a = ZhB n a := by
  intro a
  kernel_rfl
theorem ZjH {K : Zaa} : CallsOk (Zcx ) (Zac C K) :=
  ⟨Zap, Zao⟩
theorem Zk2 {K : Zaa} (n : Nat) (b0 : Base) (bn0 : b0.nr ≤ 0) : Law (Zcx ) b0 (Zac C K) (ann 71) n (Zaf (Zab Try.f71) 0) (Zca U vars_spaces_L0_D (ZdE n) n) :=
  Za6 (x := Zcx ) (id := 0) ok (ZjH ) (sums := ZdN n) (Zaj (show Zam 0 (Zaf (Zab Try.f71) 0) = [] by kernel_rfl)) vars_spaces_L0_D bn0 (ZdE n) (Znj n)
theorem ZlW {K : Zaa} (hK : ∀ args h, K 71 args h = none) (t : PX X (AK.tys [.ty 33]) → Option (PX X [33])) (h : ∀ a r, t a = some r → ∃ n, ZhB n a = some r) : Zag U (Zac C K) 71 ⟨true, [.ty 33], [33], t⟩ := by
  refine Zan (x := Zcx ) (ak := [.ty 33]) (rts := [33]) (dir := true) ok (ZjH ) hK Try.func71 Zqo fun a r hr => ?_
  obtain ⟨n, hn⟩ := h a r hr
  exact ⟨n, ZdN n, (ZaB (ids := [0]) (by kernel_rfl) (by decide) (fun i hi => by
    simp only [List.mem_cons, List.not_mem_nil, or_false] at hi
    rcases hi with rfl
    · exact Zay (c2 := Zaf (Zab Try.f71) 0) (by kernel_rfl) (by kernel_rfl) (Zk2 _ _ (Nat.le_refl _))
    )), (ZrZ n a).trans hn⟩
def Zih (qm : T2e) {R : Type} (n : Nat) (a2 : List Val) (kx0 : List Val → Option R) (y0 : List Val) (k : List Val → Option R) : Option R :=
  Option.bind (cond (decide ((y0.length : Int) > (0 : Int))) (Zbt y0 (IntKind.i64.wrap ((y0.length : Int) - (1 : Int)))) (some ZsA)) fun x3 =>
  Option.bind (some (cond (decide ((y0.length : Int) > (0 : Int))) (x3.tok.k == (13 : Int)) false)) fun m4 =>
  cond m4
  (Option.bind (ZpL y0 (0 : Int) (IntKind.i64.wrap ((y0.length : Int) - (1 : Int)))) fun s5 =>
  k s5)
  (kx0 y0)
def Zkt (qm : T2e) (n : Nat) (p0 : List Val) : Option (List Val) :=
  Option.bind (qm p0) fun r1 =>
  Zll (Zih qm n [] (fun z2 =>
  some z2)) n r1
abbrev Zwp (qm : T2e) : List (Nat × TCall X) := [(71, ⟨true, [.ty 33], [33], qm⟩)]
noncomputable abbrev Zd1 (qm : T2e) : Cx := ⟨C, U, Zwp qm, [], fun _ => []⟩
theorem Zuy : okF (C.ann 72) Try.f72 1 = true := by kernel_rfl
abbrev vars_trim_L0_D : LD := ⟨0, [.val 2 33], [.val 0 33], [(0, [.val 0 33])], []⟩
abbrev Zfm (qm : T2e) (n : Nat) : LG U (PX X [33]) vars_trim_L0_D := fun c kx kr y k => Zih qm n c.1 (fun z0 => kx 0 (z0, ())) y.1 (fun z0 => k (z0, ()))
noncomputable abbrev Zfa (qm : T2e) (n : Nat) : ZdW (Zd1 qm) (PX X [33]) := [(0, Zca U vars_trim_L0_D (Zfm qm n) n)]
theorem ZpD (qm : T2e) (n : Nat) : ∀ c kx kr y k1, evL (Zd1 qm) (ann 72) (Zfa qm n) 0 (Zaf (Zab Try.f72) 0) (ZbY U vars_trim_L0_D kx kr k1) (encS U vars_trim_L0_D.cap vars_trim_L0_D.din c y) = Zfm qm n c (fun i z => kx i c z) kr y (fun y2 => k1 c y2) := by
  intro c kx kr y k1
  kernel_rfl
theorem ZwZ (qm : T2e) (n : Nat) : ∀ a, fnL (Zd1 qm) true 72 Try.f72 [.ty 33] [33] (Zfa qm n) a = Zkt qm n a := by
  intro a
  kernel_rfl
theorem Zm5 {K : Zaa} (qm : T2e) (h0 : P2m K qm) : CallsOk (Zd1 qm) (Zac C K) :=
  ⟨(Zad h0 Zap), Zao⟩
theorem Zna {K : Zaa} (qm : T2e) (h0 : P2m K qm) (n : Nat) (b0 : Base) (bn0 : b0.nr ≤ 0) : Law (Zd1 qm) b0 (Zac C K) (ann 72) n (Zaf (Zab Try.f72) 0) (Zca U vars_trim_L0_D (Zfm qm n) n) :=
  Za6 (x := Zd1 qm) (id := 0) ok (Zm5 qm h0) (sums := Zfa qm n) (Zaj (show Zam 0 (Zaf (Zab Try.f72) 0) = [] by kernel_rfl)) vars_trim_L0_D bn0 (Zfm qm n) (ZpD qm n)
theorem Zpl {K : Zaa} (hK : ∀ args h, K 72 args h = none) (qm : T2e) (h0 : P2m K qm) (t : PX X (AK.tys [.ty 33]) → Option (PX X [33])) (h : ∀ a r, t a = some r → ∃ n, Zkt qm n a = some r) : Zag U (Zac C K) 72 ⟨true, [.ty 33], [33], t⟩ := by
  refine Zan (x := Zd1 qm) (ak := [.ty 33]) (rts := [33]) (dir := true) ok (Zm5 qm h0) hK Try.func72 Zuy fun a r hr => ?_
  obtain ⟨n, hn⟩ := h a r hr
  exact ⟨n, Zfa qm n, (ZaB (ids := [0]) (by kernel_rfl) (by decide) (fun i hi => by
    simp only [List.mem_cons, List.not_mem_nil, or_false] at hi
    rcases hi with rfl
    · exact Zay (c2 := Zaf (Zab Try.f72) 0) (by kernel_rfl) (by kernel_rfl) (Zna qm h0 _ _ (Nat.le_refl _))
    )), (ZwZ qm n a).trans hn⟩
def ZfA {R : Type} (n : Nat) (a2 : List Val) (kx0 : List Val → Option R) (y0 : List Val) (k : List Val → Option R) : Option R :=
  Option.bind (cond (decide ((y0.length : Int) > (0 : Int))) (Zbt y0 (0 : Int)) (some ZsA)) fun x6 =>
  Option.bind (some (cond (decide ((y0.length : Int) > (0 : Int))) (x6.tok.k == (13 : Int)) false)) fun m7 =>
  cond m7
  (Option.bind (ZpL y0 (1 : Int) (y0.length : Int)) fun s8 =>
  k s8)
  (kx0 y0)
def ZdA {R : Type} (n : Nat) (a2 : List Val) (kx2 : List Val → Option R) (y0 : List Val) (k : List Val → Option R) : Option R :=
  Option.bind (cond (decide ((y0.length : Int) > (0 : Int))) (Zbt y0 (IntKind.i64.wrap ((y0.length : Int) - (1 : Int)))) (some ZsA)) fun x3 =>
  Option.bind (some (cond (decide ((y0.length : Int) > (0 : Int))) (x3.tok.k == (13 : Int)) false)) fun m4 =>
  cond m4
  (Option.bind (ZpL y0 (0 : Int) (IntKind.i64.wrap ((y0.length : Int) - (1 : Int)))) fun s5 =>
  k s5)
  (kx2 y0)
def ZfK (n : Nat) (p0 : List Val) : Option (List Val) :=
  Zll (ZfA n [] (fun z1 =>
  Zll (ZdA n [] (fun z2 =>
  some z2)) n z1)) n p0
abbrev Zpv : List (Nat × TCall X) := []
noncomputable abbrev ZaZ : Cx := ⟨C, U, Zpv , [], fun _ => []⟩
theorem Zm7 : okF (C.ann 76) Try.f76 1 = true := by kernel_rfl
abbrev ref04_Trimmed_L0_D : LD := ⟨0, [.val 2 33], [.val 0 33], [(0, [.val 0 33])], []⟩
abbrev ZcH (n : Nat) : LG U (PX X [33]) ref04_Trimmed_L0_D := fun c kx kr y k => ZfA n c.1 (fun z0 => kx 0 (z0, ())) y.1 (fun z0 => k (z0, ()))
abbrev ref04_Trimmed_L2_D : LD := ⟨0, [.val 2 33], [.val 0 33], [(2, [.val 0 33])], []⟩
abbrev ZcF (n : Nat) : LG U (PX X [33]) ref04_Trimmed_L2_D := fun c kx kr y k => ZdA n c.1 (fun z0 => kx 2 (z0, ())) y.1 (fun z0 => k (z0, ()))
noncomputable abbrev Zbn (n : Nat) : ZdW (ZaZ ) (PX X [33]) := [(0, Zca U ref04_Trimmed_L0_D (ZcH n) n), (2, Zca U ref04_Trimmed_L2_D (ZcF n) n)]
theorem Zkj (n : Nat) : ∀ c kx kr y k1, evL (ZaZ ) (ann 76) (Zbn n) 0 (Zaf (Zab Try.f76) 0) (ZbY U ref04_Trimmed_L0_D kx kr k1) (encS U ref04_Trimmed_L0_D.cap ref04_Trimmed_L0_D.din c y) = ZcH n c (fun i z => kx i c z) kr y (fun y2 => k1 c y2) := by
  intro c kx kr y k1
  kernel_rfl
theorem ZkQ (n : Nat) : ∀ c kx kr y k1, evL (ZaZ ) (ann 76) (Zbn n) 2 (Zaf (Zab Try.f76) 2) (ZbY U ref04_Trimmed_L2_D kx kr k1) (encS U ref04_Trimmed_L2_D.cap ref04_Trimmed_L2_D.din c y) = ZcF n c (fun i z => kx i c z) kr y (fun y2 => k1 c y2) := by
  intro c kx kr y k1
  kernel_rfl
theorem Zpx (n : Nat) : ∀ a, fnL (ZaZ ) true 76 Try.f76 [.ty 33] [33] (Zbn n) a = ZfK n a := by
  intro a
  kernel_rfl
theorem Zfz {K : Zaa} : CallsOk (ZaZ ) (Zac C K) :=
  ⟨Zap, Zao⟩
theorem Zjm {K : Zaa} (n : Nat) (b0 : Base) (bn0 : b0.nr ≤ 0) : Law (ZaZ ) b0 (Zac C K) (ann 76) n (Zaf (Zab Try.f76) 0) (Zca U ref04_Trimmed_L0_D (ZcH n) n) :=
  Za6 (x := ZaZ ) (id := 0) ok (Zfz ) (sums := Zbn n) (Zaj (show Zam 0 (Zaf (Zab Try.f76) 0) = [] by kernel_rfl)) ref04_Trimmed_L0_D bn0 (ZcH n) (Zkj n)
theorem Zjo {K : Zaa} (n : Nat) (b0 : Base) (bn0 : b0.nr ≤ 0) : Law (ZaZ ) b0 (Zac C K) (ann 76) n (Zaf (Zab Try.f76) 2) (Zca U ref04_Trimmed_L2_D (ZcF n) n) :=
  Za6 (x := ZaZ ) (id := 2) ok (Zfz ) (sums := Zbn n) (Zaj (show Zam 2 (Zaf (Zab Try.f76) 2) = [] by kernel_rfl)) ref04_Trimmed_L2_D bn0 (ZcF n) (ZkQ n)
theorem Zkd {K : Zaa} (hK : ∀ args h, K 76 args h = none) (t : PX X (AK.tys [.ty 33]) → Option (PX X [33])) (h : ∀ a r, t a = some r → ∃ n, ZfK n a = some r) : Zag U (Zac C K) 76 ⟨true, [.ty 33], [33], t⟩ := by
  refine Zan (x := ZaZ ) (ak := [.ty 33]) (rts := [33]) (dir := true) ok (Zfz ) hK Try.func76 Zm7 fun a r hr => ?_
  obtain ⟨n, hn⟩ := h a r hr
  exact ⟨n, Zbn n, (ZaB (ids := [0, 2]) (by kernel_rfl) (by decide) (fun i hi => by
    simp only [List.mem_cons, List.not_mem_nil, or_false] at hi
    rcases hi with rfl | rfl
    · exact Zay (c2 := Zaf (Zab Try.f76) 0) (by kernel_rfl) (by kernel_rfl) (Zjm _ _ (Nat.le_refl _))
    · exact Zay (c2 := Zaf (Zab Try.f76) 2) (by kernel_rfl) (by kernel_rfl) (Zjo _ _ (Nat.le_refl _))
    )), (Zpx n a).trans hn⟩
def Zi0 (qm : T2e) (qn : T2f) (qo : T2e) (n : Nat) (p0 : Val) : Option ((List UInt8) × (List Val) × Bool) :=
  Option.bind (qm p0.l) fun r1 =>
  Option.bind (cond (!((r1.length : Int) == (0 : Int))) (Zbt r1 (0 : Int)) (some ZsA)) fun x2 =>
  Option.bind (some (cond ((r1.length : Int) == (0 : Int)) true (x2.tok.k != (1 : Int)))) fun m3 =>
  Option.bind (cond (!m3) (Zbt r1 (0 : Int)) (some ZsA)) fun x4 =>
  Option.bind (cond (!m3) (qn x4.tok.t) (some false)) fun r5 =>
  Option.bind (some (cond m3 true (!r5))) fun m6 =>
  cond m6
  (some ([], [], false))
  (Option.bind (Zbt r1 (0 : Int)) fun x7 =>
  Option.bind (ZpL r1 (1 : Int) (r1.length : Int)) fun s8 =>
  Option.bind (qm s8) fun r9 =>
  cond ((r9.length : Int) == (0 : Int))
  (some (x7.tok.t, [], false))
  (Option.bind (Zbt r9 (0 : Int)) fun x10 =>
  cond (x10.tok.k == (18 : Int))
  (Option.bind (ZpL r9 (1 : Int) (r9.length : Int)) fun s11 =>
  Option.bind (qo s11) fun r12 =>
  some (x7.tok.t, r12, true))
  (some ([], [], false))))
abbrev ZuB (qm : T2e) (qn : T2f) (qo : T2e) : List (Nat × TCall X) := [(71, ⟨true, [.ty 33], [33], qm⟩), (42, ⟨true, [.ty 9], [4], qn⟩), (72, ⟨true, [.ty 33], [33], qo⟩)]
noncomputable abbrev ZgD (qm : T2e) (qn : T2f) (qo : T2e) : Cx := ⟨C, U, ZuB qm qn qo, [], fun _ => []⟩
theorem Zsg : okF (C.ann 56) Try.f56 1 = true := by kernel_rfl
noncomputable abbrev Zil (qm : T2e) (qn : T2f) (qo : T2e) (n : Nat) : ZdW (ZgD qm qn qo) (PX X [9, 33, 4]) := []
theorem ZuQ (qm : T2e) (qn : T2f) (qo : T2e) (n : Nat) : ∀ a, fnL (ZgD qm qn qo) true 56 Try.f56 [.ty 60] [9, 33, 4] (Zil qm qn qo n) a = Zi0 qm qn qo n a := by
  intro a
  kernel_rfl
theorem Zrw {K : Zaa} (qm : T2e) (qn : T2f) (qo : T2e) (h0 : P2m K qm) (h1 : P2n K qn) (h2 : P2o K qo) : CallsOk (ZgD qm qn qo) (Zac C K) :=
  ⟨(Zad h0 (Zad h1 (Zad h2 Zap))), Zao⟩
theorem Zne {K : Zaa} (hK : ∀ args h, K 56 args h = none) (qm : T2e) (qn : T2f) (qo : T2e) (h0 : P2m K qm) (h1 : P2n K qn) (h2 : P2o K qo) (t : PX X (AK.tys [.ty 60]) → Option (PX X [9, 33, 4])) (h : ∀ a r, t a = some r → ∃ n, Zi0 qm qn qo n a = some r) : Zag U (Zac C K) 56 ⟨true, [.ty 60], [9, 33, 4], t⟩ := by
  refine Zan (x := ZgD qm qn qo) (ak := [.ty 60]) (rts := [9, 33, 4]) (dir := true) ok (Zrw qm qn qo h0 h1 h2) hK Try.func56 Zsg fun a r hr => ?_
  obtain ⟨n, hn⟩ := h a r hr
  exact ⟨n, Zil qm qn qo n, (Zaj (show Zam 0 (Zab Try.f56) = [] by kernel_rfl)), (ZuQ qm qn qo n a).trans hn⟩
def ZcB (qp : T2f) (qq : T2e) {R : Type} (n : Nat) (a2 : List UInt8) (a3 : List Val) (a4 : Bool) (a5 : List Val) (kx0 : Int → Option R) (y6 : Int) (k : Int → Option R) : Option R :=
  Option.bind (cond (decide (y6 < (a5.length : Int))) (Zbt a5 y6) (some ZsA)) fun x14 =>
  Option.bind (some (cond (decide (y6 < (a5.length : Int))) (x14.tok.k == (13 : Int)) false)) fun m15 =>
  cond m15
  (k (IntKind.i64.wrap (y6 + (1 : Int))))
  (kx0 y6)
def ZcA (qp : T2f) (qq : T2e) {R : Type} (n : Nat) (a2 : List UInt8) (a3 : List Val) (a4 : Bool) (a5 : List Val) (a7 : List UInt8) (kx2 : Int → Option R) (y6 : Int) (k : Int → Option R) : Option R :=
  Option.bind (cond (decide (y6 < (a5.length : Int))) (Zbt a5 y6) (some ZsA)) fun x12 =>
  Option.bind (some (cond (decide (y6 < (a5.length : Int))) (x12.tok.k == (13 : Int)) false)) fun m13 =>
  cond m13
  (k (IntKind.i64.wrap (y6 + (1 : Int))))
  (kx2 y6)
def Zht (qp : T2f) (qq : T2e) (n : Nat) (p0 : Val) : Option ((List UInt8) × (List Val) × Bool) :=
  Zll (ZcB qp qq n [] [] false p0.l (fun z1 =>
  Option.bind (cond (!(z1 == (p0.l.length : Int))) (Zbt p0.l z1) (some ZsA)) fun x2 =>
  Option.bind (some (cond (z1 == (p0.l.length : Int)) true (x2.tok.k != (1 : Int)))) fun m3 =>
  Option.bind (cond (!m3) (Zbt p0.l z1) (some ZsA)) fun x4 =>
  Option.bind (cond (!m3) (qp x4.tok.t) (some false)) fun r5 =>
  Option.bind (some (cond m3 true (!r5))) fun m6 =>
  cond m6
  (some ([], [], false))
  (Option.bind (Zbt p0.l z1) fun x7 =>
  Zll (ZcA qp qq n [] [] false p0.l x7.tok.t (fun z8 =>
  cond (z8 == (p0.l.length : Int))
  (some (x7.tok.t, [], false))
  (Option.bind (Zbt p0.l z8) fun x9 =>
  cond (x9.tok.k != (18 : Int))
  (some ([], [], false))
  (Option.bind (ZpL p0.l (IntKind.i64.wrap (z8 + (1 : Int))) (p0.l.length : Int)) fun s10 =>
  Option.bind (qq s10) fun r11 =>
  some (x7.tok.t, r11, true))))) n (IntKind.i64.wrap (z1 + (1 : Int)))))) n (0 : Int)
abbrev Zr2 (qp : T2f) (qq : T2e) : List (Nat × TCall X) := [(45, ⟨true, [.ty 9], [4], qp⟩), (76, ⟨true, [.ty 33], [33], qq⟩)]
noncomputable abbrev Zbh (qp : T2f) (qq : T2e) : Cx := ⟨C, U, Zr2 qp qq, [], fun _ => []⟩
theorem Zqg : okF (C.ann 61) Try.f61 1 = true := by kernel_rfl
abbrev ref30_Named_L0_D : LD := ⟨0, [.val 2 9, .val 3 33, .val 4 4, .val 5 33], [.val 6 2], [(0, [.val 6 2])], []⟩
abbrev ZdJ (qp : T2f) (qq : T2e) (n : Nat) : LG U (PX X [9, 33, 4]) ref30_Named_L0_D := fun c kx kr y k => ZcB qp qq n c.1 c.2.1 c.2.2.1 c.2.2.2.1 (fun z0 => kx 0 (z0, ())) y.1 (fun z0 => k (z0, ()))
abbrev ref30_Named_L2_D : LD := ⟨0, [.val 2 9, .val 3 33, .val 4 4, .val 5 33, .val 7 9], [.val 6 2], [(2, [.val 6 2])], []⟩
abbrev ZdS (qp : T2f) (qq : T2e) (n : Nat) : LG U (PX X [9, 33, 4]) ref30_Named_L2_D := fun c kx kr y k => ZcA qp qq n c.1 c.2.1 c.2.2.1 c.2.2.2.1 c.2.2.2.2.1 (fun z0 => kx 2 (z0, ())) y.1 (fun z0 => k (z0, ()))
noncomputable abbrev ZbV (qp : T2f) (qq : T2e) (n : Nat) : ZdW (Zbh qp qq) (PX X [9, 33, 4]) := [(0, Zca U ref30_Named_L0_D (ZdJ qp qq n) n), (2, Zca U ref30_Named_L2_D (ZdS qp qq n) n)]
theorem Zny (qp : T2f) (qq : T2e) (n : Nat) : ∀ c kx kr y k1, evL (Zbh qp qq) (ann 61) (ZbV qp qq n) 0 (Zaf (Zab Try.f61) 0) (ZbY U ref30_Named_L0_D kx kr k1) (encS U ref30_Named_L0_D.cap ref30_Named_L0_D.din c y) = ZdJ qp qq n c (fun i z => kx i c z) kr y (fun y2 => k1 c y2) := by
  intro c kx kr y k1
  kernel_rfl
theorem Zno (qp : T2f) (qq : T2e) (n : Nat) : ∀ c kx kr y k1, evL (Zbh qp qq) (ann 61) (ZbV qp qq n) 2 (Zaf (Zab Try.f61) 2) (ZbY U ref30_Named_L2_D kx kr k1) (encS U ref30_Named_L2_D.cap ref30_Named_L2_D.din c y) = ZdS qp qq n c (fun i z => kx i c z) kr y (fun y2 => k1 c y2) := by
  intro c kx kr y k1
  kernel_rfl
theorem Zs1 (qp : T2f) (qq : T2e) (n : Nat) : ∀ a, fnL (Zbh qp qq) true 61 Try.f61 [.ty 60] [9, 33, 4] (ZbV qp qq n) a = Zht qp qq n a := by
  intro a
  kernel_rfl
theorem ZgM {K : Zaa} (qp : T2f) (qq : T2e) (h0 : P2p K qp) (h1 : P2q K qq) : CallsOk (Zbh qp qq) (Zac C K) :=
  ⟨(Zad h0 (Zad h1 Zap)), Zao⟩
theorem Zld {K : Zaa} (qp : T2f) (qq : T2e) (h0 : P2p K qp) (h1 : P2q K qq) (n : Nat) (b0 : Base) (bn0 : b0.nr ≤ 0) : Law (Zbh qp qq) b0 (Zac C K) (ann 61) n (Zaf (Zab Try.f61) 0) (Zca U ref30_Named_L0_D (ZdJ qp qq n) n) :=
  Za6 (x := Zbh qp qq) (id := 0) ok (ZgM qp qq h0 h1) (sums := ZbV qp qq n) (Zaj (show Zam 0 (Zaf (Zab Try.f61) 0) = [] by kernel_rfl)) ref30_Named_L0_D bn0 (ZdJ qp qq n) (Zny qp qq n)
theorem Zlw {K : Zaa} (qp : T2f) (qq : T2e) (h0 : P2p K qp) (h1 : P2q K qq) (n : Nat) (b0 : Base) (bn0 : b0.nr ≤ 0) : Law (Zbh qp qq) b0 (Zac C K) (ann 61) n (Zaf (Zab Try.f61) 2) (Zca U ref30_Named_L2_D (ZdS qp qq n) n) :=
  Za6 (x := Zbh qp qq) (id := 2) ok (ZgM qp qq h0 h1) (sums := ZbV qp qq n) (Zaj (show Zam 2 (Zaf (Zab Try.f61) 2) = [] by kernel_rfl)) ref30_Named_L2_D bn0 (ZdS qp qq n) (Zno qp qq n)
theorem ZlH {K : Zaa} (hK : ∀ args h, K 61 args h = none) (qp : T2f) (qq : T2e) (h0 : P2p K qp) (h1 : P2q K qq) (t : PX X (AK.tys [.ty 60]) → Option (PX X [9, 33, 4])) (h : ∀ a r, t a = some r → ∃ n, Zht qp qq n a = some r) : Zag U (Zac C K) 61 ⟨true, [.ty 60], [9, 33, 4], t⟩ := by
  refine Zan (x := Zbh qp qq) (ak := [.ty 60]) (rts := [9, 33, 4]) (dir := true) ok (ZgM qp qq h0 h1) hK Try.func61 Zqg fun a r hr => ?_
  obtain ⟨n, hn⟩ := h a r hr
  exact ⟨n, ZbV qp qq n, (ZaB (ids := [0, 2]) (by kernel_rfl) (by decide) (fun i hi => by
    simp only [List.mem_cons, List.not_mem_nil, or_false] at hi
    rcases hi with rfl | rfl
    · exact Zay (c2 := Zaf (Zab Try.f61) 0) (by kernel_rfl) (by kernel_rfl) (Zld qp qq h0 h1 _ _ (Nat.le_refl _))
    · exact Zay (c2 := Zaf (Zab Try.f61) 2) (by kernel_rfl) (by kernel_rfl) (Zlw qp qq h0 h1 _ _ (Nat.le_refl _))
    )), (Zs1 qp qq n a).trans hn⟩
end Go.Tev.S1
namespace Go.Tev.S1
open Go.Abs Go.Proofs
def Zgm (l : List Val) : Option Int := if Zal l ≤ B then some (Zal l : Int) else none
theorem ZqG {l : List Val} {r : Int} (h : Zgm l = some r) : Zal l ≤ B ∧ r = Zal l := by
  unfold Zgm at h
  split at h
  · rename_i h1; exact ⟨h1, (Option.some.inj h).symm⟩
  · cases h
theorem Zgs {l : List Val} (h : Zal l ≤ B) : Zgm l = some (Zal l : Int) := if_pos h
theorem Yax (l : List Val) : ∀ b : Nat, l.foldl (fun (b : Nat) v => b + v.tot) b = b + Zal l := by
  induction l with
  | nil => intro b; simp [Zal]
  | cons v l ih => intro b; simp only [List.foldl_cons, ih, Zal]; omega
theorem Yce (l : List Val) (k : Nat) (h1 : Zal l < k + 1) (h2 : Zal l ≤ B) : ZiH (below Zal k Zgm) (l.length + 1) l = some (Zal l : Int) := by
  unfold ZiH ZcS
  have hB : B = 2 ^ 36 := rfl
  refine (Zf2 l (fun i (b : Nat) => ((b : Int), (i : Int), ())) (fun b v => .inl (b + v.tot)) (fun b => some (b : Int)) (fun i b => b = Zal (l.take i)) ?_ ?_ ?_ l (l.length + 1) 0 0 rfl (Nat.zero_le _) (by simp [Zal]) (Nat.lt_succ_self _)).trans ?_
  · intro i b v k' hv hlt hb
    have hmem := List.mem_of_getElem? hv
    have hs := Zcz hmem
    have ht := ZnV hv
    have hle := Zcs l (i + 1)
    have hl := Zb3 l
    have he := v.tot_eq
    simp only [ZfQ, ZaA hv, Option.bind_some, Zby (show Zal v.l < k by omega), Zgs (show Zal v.l ≤ B by omega)]
    have hd : decide ((i : Int) < (l.length : Int)) = true := by simp; omega
    rw [hd]
    simp only [cond_true]
    have e1 : IntKind.i64.wrap ((1 : Int) + (v.tok.t.length : Int)) = ((1 + v.tok.t.length : Nat) : Int) := by rw [Za8 (by omega) (by omega)]; omega
    rw [e1]
    have e2 : IntKind.i64.wrap (((1 + v.tok.t.length : Nat) : Int) + (v.tok.u.length : Int)) = ((1 + v.tok.t.length + v.tok.u.length : Nat) : Int) := by rw [Za8 (by omega) (by omega)]; omega
    rw [e2]
    have e3 : IntKind.i64.wrap (((1 + v.tok.t.length + v.tok.u.length : Nat) : Int) + (Zal v.l : Int)) = (v.tot : Int) := by rw [Za8 (by omega) (by omega)]; omega
    rw [e3]
    have e4 : IntKind.i64.wrap ((b : Int) + (v.tot : Int)) = ((b + v.tot : Nat) : Int) := by rw [Za8 (by omega) (by omega)]; omega
    rw [e4, Zaz (by omega)]
  · intro i b v b' hv hb hs
    cases hs
    rw [ZnV hv, hb]
  · intro b k' hb
    have hd : decide ((l.length : Int) < (l.length : Int)) = false := by simp
    simp only [ZfQ, hd, cond_false]
  · rw [Zbj (fun (b : Nat) (v : Val) => b + v.tot), Yax]; simp
theorem YbS {K : Zaa} (hK : ∀ args h, K 32 args h = none) : Zag U (Zac C K) 32 ⟨true, [.ty 33], [3], Zgm⟩ :=
  Zbs (U := U) (ak := [.ty 33]) (rts := [3]) Zal Zgm fun k ih => Znq hK (below Zal k Zgm) ih (below Zal (k + 1) Zgm) fun a r h => by
    obtain ⟨h1, h2⟩ := Za9 h
    obtain ⟨h3, rfl⟩ := ZqG h2
    exact ⟨_, Yce a k h1 h3⟩
end Go.Tev.S1
namespace Go.Tev.S1
open Go.Abs Go.Proofs
theorem ZwR (k : Int) : Zhw 0 k = some (ZaG k) := by
  unfold Zhw ZaG
  by_cases h1 : k = 2
  · simp [h1]
  · by_cases h2 : k = 21
    · rw [h2]; rfl
    · by_cases h3 : k = 19
      · rw [h3]; rfl
      · by_cases h4 : k = 23
        · rw [h4]; rfl
        · have e1 : (k == 2) = false := by simpa using h1
          have e2 : (k == 21) = false := by simpa using h2
          have e3 : (k == 19) = false := by simpa using h3
          have e4 : (k == 23) = false := by simpa using h4
          simp [h1, h2, h3, h4, e1, e2, e3, e4]
theorem ZwF (k : Int) : ZgE 0 k = some (ZaG k) := by
  unfold ZgE ZaG
  by_cases h1 : k = 2
  · rw [h1]; rfl
  · by_cases h2 : k = 21
    · rw [h2]; rfl
    · by_cases h3 : k = 19
      · rw [h3]; rfl
      · by_cases h4 : k = 23
        · rw [h4]; rfl
        · have e1 : (k == 2) = false := by simpa using h1
          have e2 : (k == 21) = false := by simpa using h2
          have e3 : (k == 19) = false := by simpa using h3
          have e4 : (k == 23) = false := by simpa using h4
          simp [h1, h2, h3, h4, e1, e2, e3, e4]
theorem Yfh {K : Zaa} (hK : ∀ args h, K 67 args h = none) : Zag U (Zac C K) 67 ⟨true, [.ty 5], [5], fun k => some (ZaG k)⟩ :=
  ZlN hK _ fun a r h => by cases h; exact ⟨0, ZwR a⟩
theorem Zs8 {K : Zaa} (hK : ∀ args h, K 54 args h = none) : Zag U (Zac C K) 54 ⟨true, [.ty 5], [5], fun k => some (ZaG k)⟩ :=
  Zlo hK _ fun a r h => by cases h; exact ⟨0, ZwF a⟩
def ZvO (a : List Val × Int) : Option Fnd := if Zal a.1 ≤ B then some (ZuO a.2 a.1) else none
theorem Zta {l : List Val} {cl : Int} (h : Zal l ≤ B) : ZvO (l, cl) = some (ZuO cl l) := if_pos h
theorem YaN (cl : Int) (l : List Val) (k : Nat) (h1 : Zal l < k + 1) (h2 : Zal l ≤ B) : ZkX (fun k => some (ZaG k)) (below (fun a : List Val × Int => Zal a.1) k ZvO) (l.length + 1) l cl = some (ZuO cl l) := by
  have hB : B = 2 ^ 36 := rfl
  unfold ZkX
  refine (Zf1 l (fun (b : List Val) => ((0 : Int), (0 : Int), false)) (fun b => ((ZgK b : Int), (ZlD b : Int), Zpq cl b)) (fun b v => .inl (b ++ [v])) (fun b => some (ZuO cl b)) (fun i b => b = l.take i) ?_ ?_ ?_ [] rfl _ (Nat.lt_succ_self _)).trans ?_
  · intro i b v k' hv hlt hb
    subst hb
    have hmem := List.mem_of_getElem? hv
    have hs := Zcz hmem
    have hle := Zcs l i
    have ht := ZnV hv
    have hle2 := Zcs l (i + 1)
    have hl := Zb3 l
    have hd := Zi5 (l.take i)
    have hn := ZiJ (l.take i)
    have hd' := Zi5 v.l
    have hn' := ZiJ v.l
    simp (disch := omega) only [ZgB, ZaA hv, Option.bind_some, dlt hlt, cond_true, Bool.cond_self, Zby, Zta, Za8]
    have hi : (i : Int) + 1 = ((i + 1 : Nat) : Int) := rfl
    rw [hi]
    simp only [Zpt, Zwa, Zv0, ZgK, ZlD, Zpq, Val.dep_eq v, Val.ntk_eq v, Val.bad_eq cl v, ZuO]
    have hp : decide ((v.l.length : Int) > 0) = decide (0 < v.l.length) := by simp
    rw [hp]
    by_cases hc : ZaG v.tok.k = 0
    · simp only [hc, beq_self_eq_true, cond_true, if_true]
      have hx : (((max (ZgK (l.take i)) (max 0 0) : Nat)) : Int) = (ZgK (l.take i) : Int) := by omega
      have hy : (((ZlD (l.take i) + (1 + 0) : Nat)) : Int) = (ZlD (l.take i) : Int) + 1 := by omega
      rw [hx, hy]
      cases e1 : (cl != 0) <;> cases e2 : (v.tok.k == cl) <;> cases e3 : decide (0 < v.l.length) <;> cases e4 : Zpq cl (l.take i) <;> rfl
    · have hc' : (ZaG v.tok.k == 0) = false := by simpa using hc
      have hc2 : (ZaG v.tok.k != 0) = true := by simpa using hc
      have hbel : below (fun a : List Val × Int => Zal a.1) k ZvO (v.l, ZaG v.tok.k) = some (ZuO (ZaG v.tok.k) v.l) := (Zby (sz := fun a : List Val × Int => Zal a.1) (show Zal v.l < k by omega)).trans (Zta (by omega))
      simp (disch := omega) only [hc', hc2, cond_false, if_neg hc, hbel, Option.bind_some, ZuO, Za8]
      have hx : (if (ZgK v.l : Int) + 1 > (ZgK (l.take i) : Int) then (ZgK v.l : Int) + 1 else (ZgK (l.take i) : Int)) = (((max (ZgK (l.take i)) (max (1 + ZgK v.l) 0) : Nat)) : Int) := by split <;> omega
      have hy : (ZlD (l.take i) : Int) + 1 + (ZlD v.l : Int) + 1 = (((ZlD (l.take i) + (2 + ZlD v.l + 0) : Nat)) : Int) := by omega
      rw [hx, hy]
      cases e1 : (cl != 0) <;> cases e2 : (v.tok.k == cl) <;> cases e3 : decide (0 < v.l.length) <;> cases e4 : Zpq cl (l.take i) <;> cases e5 : Zpq (ZaG v.tok.k) v.l <;> rfl
  · intro i b v b' hv hb hs
    cases hs
    rw [ZaP hv, hb]
  · intro b k' hb
    simp only [ZgB, ZiB, cond_false]; rfl
  · rw [Zbj (fun (b : List Val) (v : Val) => b ++ [v]), Zc6]
theorem Yik {K : Zaa} (hK : ∀ args h, K 43 args h = none) (h67 : ∀ args h, K 67 args h = none) : Zag U (Zac C K) 43 ⟨true, [.ty 33, .ty 5], [74], ZvO⟩ :=
  Zbs (U := U) (ak := [.ty 33, .ty 5]) (rts := [74]) (fun a : List Val × Int => Zal a.1) ZvO fun k ih => ZoA hK _ _ (Yfh h67) ih _ fun a r h => by
    obtain ⟨h1, h2⟩ := Za9 h
    unfold ZvO at h2
    split at h2
    · rename_i h3
      cases h2
      exact ⟨_, YaN a.2 a.1 k h1 h3⟩
    · cases h2
def Za5 (l : List Val) : Int := if ZgK l > 16 then 20 else if ZlD l > 1500 then 4 else if Zpq 0 l then 8 else 0
def ZhW (l : List Val) : Option Int := if Zal l ≤ B then some (Za5 l) else none
theorem Zgf {l : List Val} (h : Zal l ≤ B) : ZhW l = some (Za5 l) := if_pos h
theorem ZyV (l : List Val) (h : Zal l ≤ B) : ZiV ZvO 0 l = some (Za5 l) := by
  unfold ZiV Za5
  rw [Zta h]
  simp only [Option.bind_some, ZuO]
  by_cases h1 : ZgK l > 16
  · have : decide ((ZgK l : Int) > 16) = true := by simp; omega
    rw [this, if_pos h1]; rfl
  · have : decide ((ZgK l : Int) > 16) = false := by simp; omega
    rw [this, if_neg h1]
    by_cases h2 : ZlD l > 1500
    · have : decide ((ZlD l : Int) > 1500) = true := by simp; omega
      rw [this, if_pos h2]; rfl
    · have : decide ((ZlD l : Int) > 1500) = false := by simp; omega
      rw [this, if_neg h2]
      cases Zpq 0 l <;> rfl
theorem Zj0 {K : Zaa} (hK : ∀ args h, K 24 args h = none) (h43 : ∀ args h, K 43 args h = none) (h67 : ∀ args h, K 67 args h = none) : Zag U (Zac C K) 24 ⟨true, [.ty 33], [25], ZhW⟩ :=
  ZnA hK _ (Yik h43 h67) _ fun a r h => by
    unfold ZhW at h
    split at h
    · rename_i h3
      cases h
      exact ⟨0, ZyV a h3⟩
    · cases h
end Go.Tev.S1
namespace Go.Tev.S1
open Go.Abs Go.Proofs
def Zvp (l : List Val) : Option Int := if Zal l ≤ B then some (ZgK l : Int) else none
theorem Zrn {l : List Val} (h : Zal l ≤ B) : Zvp l = some (ZgK l : Int) := if_pos h
theorem Ya1 (l : List Val) (k : Nat) (h1 : Zal l < k + 1) (h2 : Zal l ≤ B) : Zi4 (fun k => some (ZaG k)) (below Zal k Zvp) (l.length + 1) l = some (ZgK l : Int) := by
  have hB : B = 2 ^ 36 := rfl
  unfold Zi4
  refine (Za3 l (fun (b : List Val) => (ZgK b : Int)) (fun b v => .inl (b ++ [v])) (fun b => some (ZgK b : Int)) (fun i b => b = l.take i) ?_ ?_ ?_ [] rfl _ (Nat.lt_succ_self _)).trans ?_
  · intro i b v k' hv hlt hb
    subst hb
    have hmem := List.mem_of_getElem? hv
    have hs := Zcz hmem
    have hle := Zcs l i
    have hl := Zb3 l
    have hd := Zi5 (l.take i)
    have hd' := Zi5 v.l
    have hbel : below Zal k Zvp v.l = some (ZgK v.l : Int) := (Zby (by omega)).trans (Zrn (by omega))
    simp (disch := omega) only [ZfS, ZaA hv, Option.bind_some, dlt hlt, cond_true, hbel, Za8]
    have hi : (i : Int) + 1 = ((i + 1 : Nat) : Int) := rfl
    rw [hi]
    simp only [Zpt, ZgK, Val.dep_eq v]
    by_cases hc : ZaG v.tok.k = 0
    · have hc2 : (ZaG v.tok.k != 0) = false := by simpa using hc
      simp only [hc2, cond_false, if_pos hc, Option.bind_some]
      congr 1; omega
    · have hc2 : (ZaG v.tok.k != 0) = true := by simpa using hc
      simp (disch := omega) only [hc2, cond_true, if_neg hc, hbel, Option.bind_some, Za8]
      have hx : (if (1 : Int) + (ZgK v.l : Int) > (ZgK (l.take i) : Int) then (1 : Int) + (ZgK v.l : Int) else (ZgK (l.take i) : Int)) = (((max (ZgK (l.take i)) (max (1 + ZgK v.l) 0) : Nat)) : Int) := by split <;> omega
      rw [hx]
  · intro i b v b' hv hb hs
    cases hs
    rw [ZaP hv, hb]
  · intro b k' hb
    simp only [ZfS, ZiB, cond_false]
  · rw [Zbj (fun (b : List Val) (v : Val) => b ++ [v]), Zc6]
theorem YfD {K : Zaa} (hK : ∀ args h, K 33 args h = none) (h54 : ∀ args h, K 54 args h = none) : Zag U (Zac C K) 33 ⟨true, [.ty 33], [3], Zvp⟩ :=
  Zbs (U := U) (ak := [.ty 33]) (rts := [3]) Zal Zvp fun k ih => ZnC hK _ _ (Zs8 h54) ih _ fun a r h => by
    obtain ⟨h1, h2⟩ := Za9 h
    unfold Zvp at h2
    split at h2
    · rename_i h3; cases h2; exact ⟨_, Ya1 a k h1 h3⟩
    · cases h2
def ZvR (l : List Val) : Option (List Tok) := if Zal l ≤ B then some (ZpB l) else none
theorem ZxO {l : List Val} (h : Zal l ≤ B) : ZvR l = some (ZpB l) := if_pos h
theorem Zej {b n : Nat} (h1 : n ≤ 2 ^ 40) (h2 : b ≤ 96) : room b n = some () := by
  unfold room
  have h3 : n * b ≤ 2 ^ 40 * 96 := Nat.mul_le_mul h1 h2
  rw [if_pos ⟨by omega, by omega⟩]
theorem Ybp (l : List Val) (k : Nat) (h1 : Zal l < k + 1) (h2 : Zal l ≤ B) : Zgx (fun k => some (ZaG k)) (below Zal k ZvR) (l.length + 1) l = some (ZpB l) := by
  have hB : B = 2 ^ 36 := rfl
  unfold Zgx
  refine (Za3 l (fun (b : List Val) => ZpB b) (fun b v => .inl (b ++ [v])) (fun b => some (ZpB b)) (fun i b => b = l.take i) ?_ ?_ ?_ [] rfl _ (Nat.lt_succ_self _)).trans ?_
  · intro i b v k' hv hlt hb
    subst hb
    have hmem := List.mem_of_getElem? hv
    have hs := Zcz hmem
    have hle := Zcs l i
    have hl := Zb3 l
    have hn := Zls (l.take i)
    have hn' := Zls v.l
    have hm := ZiJ (l.take i)
    have hm' := ZiJ v.l
    have hbel : below Zal k ZvR v.l = some (ZpB v.l) := (Zby (by omega)).trans (ZxO (by omega))
    have r1 : room 56 ((ZpB (l.take i)).length + [v.tok].length) = some () := Zej (by simp; omega) (by decide)
    simp (disch := omega) only [Zer, ZaA hv, Option.bind_some, dlt hlt, cond_true, hbel, r1, Za8]
    have hi : (i : Int) + 1 = ((i + 1 : Nat) : Int) := rfl
    rw [hi]
    simp only [ZwO, ZpB, Val.tks_eq v]
    by_cases hc : ZaG v.tok.k = 0
    · have hc2 : (ZaG v.tok.k != 0) = false := by simpa using hc
      simp only [hc2, cond_false, if_pos hc, Option.bind_some, List.append_nil]
    · have hc2 : (ZaG v.tok.k != 0) = true := by simpa using hc
      have r2 : room 56 ((ZpB (l.take i) ++ [v.tok]).length + (ZpB v.l).length) = some () := Zej (by simp; omega) (by decide)
      have r3 : room 56 ((ZpB (l.take i) ++ [v.tok] ++ ZpB v.l).length + [Tok.mk (ZaG v.tok.k) [] (0 : Int) [] false].length) = some () := Zej (by simp; omega) (by decide)
      simp only [hc2, cond_true, if_neg hc, hbel, Option.bind_some, r2, r3]
      simp
  · intro i b v b' hv hb hs
    cases hs
    rw [ZaP hv, hb]
  · intro b k' hb
    simp only [Zer, ZiB, cond_false]
  · rw [Zbj (fun (b : List Val) (v : Val) => b ++ [v]), Zc6]
theorem YeK {K : Zaa} (hK : ∀ args h, K 46 args h = none) (h54 : ∀ args h, K 54 args h = none) : Zag U (Zac C K) 46 ⟨true, [.ty 33], [78], ZvR⟩ :=
  Zbs (U := U) (ak := [.ty 33]) (rts := [78]) Zal ZvR fun k ih => Zlm hK _ _ (Zs8 h54) ih _ fun a r h => by
    obtain ⟨h1, h2⟩ := Za9 h
    unfold ZvR at h2
    split at h2
    · rename_i h3; cases h2; exact ⟨_, Ybp a k h1 h3⟩
    · cases h2
def Zj3 (a : List Val × Int) : Option Bool := if Zal a.1 ≤ B then some (!Zpq a.2 a.1) else none
theorem ZqE {l : List Val} {c : Int} (h : Zal l ≤ B) : Zj3 (l, c) = some (!Zpq c l) := if_pos h
theorem ZwW (c : Int) (l : List Val) (k : Nat) (h1 : Zal l < k + 1) (h2 : Zal l ≤ B) : ZgI (fun k => some (ZaG k)) (below (fun a : List Val × Int => Zal a.1) k Zj3) (l.length + 1) l c = some (!Zpq c l) := by
  have hB : B = 2 ^ 36 := rfl
  unfold ZgI
  refine (Za3 l (fun (_ : Unit) => false) (fun b v => if v.bad c then .inr (some false) else .inl ()) (fun b => some true) (fun i b => True) ?_ ?_ ?_ () trivial _ (Nat.lt_succ_self _)).trans ?_
  · intro i b v k' hv hlt hb
    have hmem := List.mem_of_getElem? hv
    have hs := Zcz hmem
    have hl := Zb3 l
    have hbel : below (fun a : List Val × Int => Zal a.1) k Zj3 (v.l, ZaG v.tok.k) = some (!Zpq (ZaG v.tok.k) v.l) := (Zby (sz := fun a : List Val × Int => Zal a.1) (show Zal v.l < k by omega)).trans (ZqE (by omega))
    have hp : decide ((v.l.length : Int) > 0) = decide (0 < v.l.length) := by simp
    simp (disch := omega) only [Zef, ZaA hv, Option.bind_some, dlt hlt, cond_true, hbel, Za8]
    have hi : (i : Int) + 1 = ((i + 1 : Nat) : Int) := rfl
    rw [hi, Val.bad_eq]
    by_cases hc : ZaG v.tok.k = 0
    · simp only [hc, beq_self_eq_true, cond_true, Option.bind_some, hp]
      cases e1 : (c != 0) <;> cases e2 : (v.tok.k == c) <;> cases e3 : decide (0 < v.l.length) <;> first | rfl | simp [e2]
    · have hc' : (ZaG v.tok.k == 0) = false := by simpa using hc
      have hc2 : (ZaG v.tok.k != 0) = true := by simpa using hc
      simp only [hc', hc2, cond_false, hbel, Option.bind_some]
      cases e1 : (c != 0) <;> cases e2 : (v.tok.k == c) <;> cases e5 : Zpq (ZaG v.tok.k) v.l <;> rw [e5] at hbel <;> first | rfl | simp [e2, hbel]
  · intro i b v b' hv hb hs
    trivial
  · intro b k' hb
    simp only [Zef, ZiB, cond_false]
  · clear h1 h2
    induction l with
    | nil => rfl
    | cons v l ih =>
      simp only [ZmL, Zpq]
      cases v.bad c with
      | true => rfl
      | false => simpa using ih
theorem Yep {K : Zaa} (hK : ∀ args h, K 47 args h = none) (h54 : ∀ args h, K 54 args h = none) : Zag U (Zac C K) 47 ⟨true, [.ty 33, .ty 5], [4], Zj3⟩ :=
  Zbs (U := U) (ak := [.ty 33, .ty 5]) (rts := [4]) (fun a : List Val × Int => Zal a.1) Zj3 fun k ih => Zkg hK _ _ (Zs8 h54) ih _ fun a r h => by
    obtain ⟨h1, h2⟩ := Za9 h
    unfold Zj3 at h2
    split at h2
    · rename_i h3; cases h2; exact ⟨_, ZwW a.2 a.1 k h1 h3⟩
    · cases h2
theorem Zzx (l : List Val) (h : Zal l ≤ B) : Zhr Zvp ZvR Zj3 0 l = some (Za5 l) := by
  unfold Zhr Za5
  rw [Zrn h, ZxO h, ZqE h]
  simp only [Option.bind_some, Zls]
  by_cases h1 : ZgK l > 16
  · have : decide ((ZgK l : Int) > 16) = true := by simp; omega
    rw [this, if_pos h1]; rfl
  · have : decide ((ZgK l : Int) > 16) = false := by simp; omega
    rw [this, if_neg h1]
    by_cases h2 : ZlD l > 1500
    · have : decide ((ZlD l : Int) > 1500) = true := by simp; omega
      rw [this, if_pos h2]; rfl
    · have : decide ((ZlD l : Int) > 1500) = false := by simp; omega
      rw [this, if_neg h2]
      cases Zpq 0 l <;> rfl
theorem Zmk {K : Zaa} (hK : ∀ args h, K 27 args h = none) (h33 : ∀ args h, K 33 args h = none) (h46 : ∀ args h, K 46 args h = none) (h47 : ∀ args h, K 47 args h = none) (h54 : ∀ args h, K 54 args h = none) : Zag U (Zac C K) 27 ⟨true, [.ty 33], [3], ZhW⟩ :=
  ZmG hK _ _ _ (YfD h33 h54) (YeK h46 h54) (Yep h47 h54) _ fun a r h => by
    unfold ZhW at h
    split at h
    · rename_i h3; cases h; exact ⟨0, Zzx a h3⟩
    · cases h
end Go.Tev.S1
namespace Go.Tev
open Go.Abs
def ZpC (b : UInt8) : UInt8 := if 65 ≤ b.toNat ∧ b.toNat ≤ 90 then b + 32 else b
def ZeP (l : List UInt8) : List UInt8 := l.map ZpC
def Za4 (l : List UInt8) : Bool := (decide ((l.length : Int) > 2) && decide ((l.length : Int) ≤ 64)) && (l.take 2 == [45, 45])
def Val.ref (v : Val) : Bool := v.tok.k == 2 && (ZeP v.tok.t == [118, 97, 114])
mutual
def Val.hasv : Val → Bool
  | .mk t l => (t.k == 2 && (ZeP t.t == [118, 97, 114])) || Zbg l
def Zbg : List Val → Bool
  | [] => false
  | v :: r => v.hasv || Zbg r
end
theorem Val.hasv_eq (v : Val) : v.hasv = (v.ref || Zbg v.l) := by cases v; rfl
theorem Zt5 (a b : List Val) : Zbg (a ++ b) = (Zbg a || Zbg b) := by
  induction a with
  | nil => simp [Zbg]
  | cons v a ih => simp [Zbg, ih, Bool.or_assoc]
def sp (v : Val) : Bool := v.tok.k == 13
def spL : List Val → List Val
  | [] => []
  | v :: r => if sp v then spL r else v :: r
def trR (l : List Val) : List Val := (spL l.reverse).reverse
def trL (l : List Val) : List Val := trR (spL l)
theorem ZxB (l : List Val) : Zal l.reverse = Zal l := by
  induction l with
  | nil => rfl
  | cons v l ih => simp [Zgi, Zal, ih]; omega
theorem ZjE (l : List Val) : Zal (spL l) ≤ Zal l := by
  induction l with
  | nil => exact Nat.le_refl _
  | cons v r ih => unfold spL; split <;> simp only [Zal] <;> omega
theorem Yhn (l : List Val) : Zal (trL l) ≤ Zal l := by
  unfold trL trR
  rw [ZxB]
  have h1 := ZjE (spL l).reverse
  rw [ZxB] at h1
  have h2 := ZjE l
  omega
def Zav (l : List Val) : List UInt8 × List Val × Bool :=
  match spL l with
  | [] => ([], [], false)
  | x :: r => if x.tok.k = 1 ∧ Za4 x.tok.t = true then
      (match spL r with
      | [] => (x.tok.t, [], false)
      | y :: s => if y.tok.k = 18 then (x.tok.t, trL s, true) else ([], [], false))
    else ([], [], false)
theorem Ziz (l : List Val) : Zal (Zav l).2.1 ≤ Zal l := by
  unfold Zav
  have h1 := ZjE l
  cases e : spL l with
  | nil => simp [Zal]
  | cons x r =>
    rw [e] at h1
    simp only [Zal] at h1
    have h2 := ZjE r
    simp only
    split
    · cases e2 : spL r with
      | nil => simp [Zal]
      | cons y s =>
        rw [e2] at h2
        simp only [Zal] at h2
        simp only
        split
        · have := Yhn s
          simp only; omega
        · simp [Zal]
    · simp [Zal]
end Go.Tev
namespace Go.Tev.S1
open Go.Abs Go.Proofs
theorem kf {K : Zaa} (hK : Zcf K) (f : Nat) (h : f ∉ [25, 35, 44, 48, 68]) : ∀ args g, K f args g = none := fun args g => hK f args g h
theorem ZpR (p q : List UInt8) : ZaV 0 p q = some (p.take q.length == q) := by
  unfold ZaV
  by_cases h : q.length ≤ p.length
  · have : decide ((p.length : Int) ≥ (q.length : Int)) = true := by simp; omega
    simp only [this, cond_true, ZpL]
    rw [if_pos (by omega)]
    simp
  · have : decide ((p.length : Int) ≥ (q.length : Int)) = false := by simp; omega
    simp only [this, cond_false, Option.bind_some]
    congr 1
    symm
    rw [beq_eq_false_iff_ne]
    intro he
    have := congrArg List.length he
    simp at this
    omega
theorem ZwS (p : List UInt8) : ZgG (fun a => some (a.1.take a.2.length == a.2)) 0 p = some (Za4 p) := by
  unfold ZgG Za4
  simp only [Option.bind_some, List.length_cons, List.length_nil]
  cases e1 : (p.take 2 == [45, 45]) <;> cases e2 : decide ((p.length : Int) > 2) <;> cases e3 : decide ((p.length : Int) ≤ 64) <;> rfl
theorem Zqe (p : List UInt8) : Zgq 0 p = some (Za4 p) := by
  unfold Zgq Za4
  simp only [Option.bind_some]
  by_cases h : (decide ((p.length : Int) > 2) && decide ((p.length : Int) ≤ 64)) = true
  · have h' := h
    rw [Bool.and_eq_true] at h'
    rw [h]
    simp only [h'.1, h'.2, cond_true, ZpL, Bool.true_and]
    have := of_decide_eq_true h'.1
    rw [if_pos (by omega)]
    rfl
  · have h2 : (bif decide ((p.length : Int) > 2) then decide ((p.length : Int) ≤ 64) else false) = false := by
      cases e2 : decide ((p.length : Int) > 2) <;> cases e3 : decide ((p.length : Int) ≤ 64) <;> simp [e2, e3] at h ⊢
    rw [Bool.not_eq_true] at h
    rw [h2, h]
    rfl
theorem Zua {K : Zaa} (hK : Zcf K) : Zag U (Zac C K) 77 ⟨true, [.ty 9, .ty 9], [4], fun a => some (a.1.take a.2.length == a.2)⟩ :=
  Zdz (kf hK 77 (by decide)) _ fun a r h => by cases h; exact ⟨0, ZpR a.1 a.2⟩
theorem Zwm {K : Zaa} (hK : Zcf K) : Zag U (Zac C K) 66 ⟨true, [.ty 9, .ty 9], [4], fun a => some (a.1.take a.2.length == a.2)⟩ :=
  ZhJ (kf hK 66 (by decide)) _ (Zua hK) _ fun a r h => by cases h; exact ⟨0, rfl⟩
theorem ZxY {K : Zaa} (hK : Zcf K) : Zag U (Zac C K) 42 ⟨true, [.ty 9], [4], fun a => some (Za4 a)⟩ :=
  ZkN (kf hK 42 (by decide)) _ (Zwm hK) _ fun a r h => by cases h; exact ⟨0, ZwS a⟩
theorem ZoQ {K : Zaa} (hK : Zcf K) : Zag U (Zac C K) 45 ⟨true, [.ty 9], [4], fun a => some (Za4 a)⟩ :=
  Zk4 (kf hK 45 (by decide)) _ fun a r h => by cases h; exact ⟨0, Zqe a⟩
def YfP (l : List UInt8) : Option (List UInt8) := if l.length ≤ B then some (ZeP l) else none
theorem Zwr {l : List UInt8} (h : l.length ≤ B) : YfP l = some (ZeP l) := if_pos h
def half (l b : List UInt8) : List Int := Zgg (b ++ l.drop b.length)
theorem ZkP {l : List UInt8} {i : Nat} {v : UInt8} (hv : l[i]? = some v) : (half l (ZeP (l.take i)))[i]? = some (v.toNat : Int) := by
  have hlt : i < l.length := (List.getElem?_eq_some_iff.1 hv).1
  simp only [half, Zgg, ZeP, List.length_map, List.length_take, List.getElem?_map]
  rw [List.getElem?_append_right (by simp; omega)]
  simp only [List.length_map, List.length_take, List.getElem?_drop, Nat.min_eq_left (Nat.le_of_lt hlt)]
  rw [Nat.sub_self, Nat.add_zero, hv]; rfl
theorem Zkk {l : List UInt8} {i : Nat} (h : i ≤ l.length) : (half l (ZeP (l.take i))).length = l.length := by
  simp [half, Zgg, ZeP]; omega
theorem ZnZ {l : List UInt8} {i : Nat} {v : UInt8} (hv : l[i]? = some v) : half l (ZeP (l.take (i + 1))) = (half l (ZeP (l.take i))).set i ((ZpC v).toNat : Int) := by
  have hlt : i < l.length := (List.getElem?_eq_some_iff.1 hv).1
  apply List.ext_getElem?
  intro j
  rw [ZaP hv]
  simp only [half, Zgg, ZeP, List.map_append, List.map_cons, List.map_nil, List.length_append, List.length_map, List.length_take, Nat.min_eq_left (Nat.le_of_lt hlt), List.length_cons, List.length_nil]
  have hd : l.drop i = v :: l.drop (i + 1) := by
    rw [List.drop_eq_getElem_cons hlt]
    have := List.getElem?_eq_getElem hlt
    rw [hv] at this
    cases this; rfl
  rw [hd]
  simp only [List.append_assoc, List.cons_append, List.nil_append, List.map_append, List.map_cons, List.map_map]
  have hl : (List.map ((fun c => ((UInt8.toNat c : Nat) : Int)) ∘ ZpC) (List.take i l)).length = i := by simp; omega
  rw [List.set_append_right _ _ (by rw [hl]; exact Nat.le_refl _), hl, Nat.sub_self]
  rfl
theorem Zk3 {l : List UInt8} {i : Nat} {v : UInt8} (hv : l[i]? = some v) (h : ZpC v = v) : half l (ZeP (l.take (i + 1))) = half l (ZeP (l.take i)) := by
  rw [ZnZ hv, h]
  have h2 := ZkP hv
  apply List.ext_getElem?
  intro j
  by_cases hj : i = j
  · subst hj
    rw [List.getElem?_set_self (by rw [Zkk]; exact (List.getElem?_eq_some_iff.1 hv).1; exact Nat.le_of_lt (List.getElem?_eq_some_iff.1 hv).1), h2]
  · rw [List.getElem?_set_ne hj]
theorem ZmZ (l : List UInt8) : Zl9 ((half l (ZeP l)).take l.length) = ZeP l := by
  have : half l (ZeP l) = Zgg (ZeP l) := by
    unfold half
    rw [List.drop_eq_nil_of_le (by simp [ZeP]), List.append_nil]
  rw [this, List.take_of_length_le (by simp [Zgg, ZeP])]
  unfold Zl9 Zgg
  rw [List.map_map]
  conv => rhs; rw [← List.map_id (ZeP l)]
  apply List.map_congr_left
  intro c _
  simp
theorem Yb0 {v : UInt8} (h : 65 ≤ v.toNat ∧ v.toNat ≤ 90) : ((ZpC v).toNat : Int) = (v.toNat : Int) + 32 := by
  unfold ZpC
  rw [if_pos h, UInt8.toNat_add]
  have : (32 : UInt8).toNat = 32 := rfl
  rw [this]; omega
theorem Ybm {v : UInt8} (h : ¬ (65 ≤ v.toNat ∧ v.toNat ≤ 90)) : ZpC v = v := if_neg h
theorem Ygd {n : Int} (h1 : 0 ≤ n) (h2 : n < 256) : IntKind.u8.wrap n = n := by
  simp [IntKind.wrap, IntKind.signed, IntKind.bits]
  omega
theorem ZyS (l : List UInt8) (h2 : l.length ≤ B) : Zhu (l.length + 1) l = some (ZeP l) := by
  have hB : B = 2 ^ 36 := rfl
  unfold Zhu
  refine ((congrArg (fun z => ZcS _ _ _ z) (show Zgg l = half l (ZeP (l.take 0)) by simp [half, ZeP])).trans (ZhE l (half l) (fun b v => .inl (b ++ [ZpC v])) (fun b => some (Zl9 ((half l b).take l.length))) (fun i b => b = ZeP (l.take i)) ?_ ?_ ?_ [] rfl _ (Nat.lt_succ_self _))).trans ?_
  · intro i b v k' hv hlt hb
    subst hb
    have hlen := Zkk (l := l) (i := i) (by omega)
    have hn := v.toNat_lt
    have hg : (if 0 ≤ (i : Int) ∧ (i : Int) < l.length ∧ (i : Int) < (half l (ZeP (l.take i))).length then some (i : Int).toNat else none) = some i := by
      rw [if_pos (by omega)]; rfl
    simp (disch := omega) only [Ze5, dlt hlt, cond_true, hg, Option.bind_some, ZkP hv, Za8]
    have hi : (i : Int) + 1 = ((i + 1 : Nat) : Int) := rfl
    rw [hi]
    have hsn : half l (ZeP (l.take i) ++ [ZpC v]) = half l (ZeP (l.take (i + 1))) := by rw [ZaP hv]; simp [ZeP]
    rw [hsn]
    by_cases hc : 65 ≤ v.toNat ∧ v.toNat ≤ 90
    · have e1 : decide ((v.toNat : Int) ≥ 65) = true := by simp; omega
      have e2 : decide ((v.toNat : Int) ≤ 90) = true := by simp; omega
      have e3 : i < (half l (ZeP (l.take i))).length := by omega
      simp only [e1, e2, cond_true, hg, Option.bind_some, if_pos e3]
      rw [ZnZ hv, Yb0 hc]
      congr 3
      rw [Ygd (n := (v.toNat : Int) + 97) (by omega) (by omega)]
      rw [Ygd (by omega) (by omega)]
      omega
    · have e1 : (bif decide ((v.toNat : Int) ≥ 65) then decide ((v.toNat : Int) ≤ 90) else false) = false := by
        cases a : decide ((v.toNat : Int) ≥ 65)
        · rfl
        · simp at a ⊢; omega
      simp only [e1, cond_false, Option.bind_some]
      rw [Zk3 hv (Ybm hc)]
  · intro i b v b' hv hb hs
    cases hs
    rw [ZaP hv, hb]; simp [ZeP]
  · intro b k' hb
    rw [List.take_length] at hb
    subst hb
    have := Zkk (l := l) (i := l.length) (Nat.le_refl _)
    rw [List.take_length] at this
    simp only [Ze5, ZiB, cond_false, this, Nat.le_refl, if_true, Option.bind_some]
  · rw [Zbj (fun (b : List UInt8) (v : UInt8) => b ++ [ZpC v])]
    have : ∀ (l b : List UInt8), l.foldl (fun (b : List UInt8) (v : UInt8) => b ++ [ZpC v]) b = b ++ ZeP l := by
      intro l
      induction l with
      | nil => intro b; simp [ZeP]
      | cons v l ih => intro b; simp only [List.foldl_cons, ih]; simp [ZeP]
    rw [this, List.nil_append, ZmZ]
theorem Yhe {K : Zaa} (hK : Zcf K) : Zag U (Zac C K) 52 ⟨true, [.ty 9], [9], YfP⟩ :=
  Zmi (kf hK 52 (by decide)) _ fun a r h => by
    unfold YfP at h
    split at h
    · rename_i h3; cases h; exact ⟨_, ZyS a h3⟩
    · cases h
end Go.Tev.S1
namespace Go.Tev.S1
open Go.Abs Go.Proofs
theorem Zrt (l : List UInt8) (h2 : l.length ≤ B) : ZhG (l.length + 1) l = some (ZeP l) := by
  have hB : B = 2 ^ 36 := rfl
  unfold ZhG
  refine ((congrArg (fun z => ZcS _ _ _ z) (show Zgg l = half l (ZeP (l.take 0)) by simp [half, ZeP])).trans (ZhE l (half l) (fun b v => .inl (b ++ [ZpC v])) (fun b => some (Zl9 ((half l b).take l.length))) (fun i b => b = ZeP (l.take i)) ?_ ?_ ?_ [] rfl _ (Nat.lt_succ_self _))).trans ?_
  · intro i b v k' hv hlt hb
    subst hb
    have hlen := Zkk (l := l) (i := i) (by omega)
    have hn := v.toNat_lt
    have hg : (if 0 ≤ (i : Int) ∧ (i : Int) < l.length ∧ (i : Int) < (half l (ZeP (l.take i))).length then some (i : Int).toNat else none) = some i := by
      rw [if_pos (by omega)]; rfl
    simp (disch := omega) only [Zff, dlt hlt, cond_true, hg, Option.bind_some, ZkP hv, Za8]
    have hi : (i : Int) + 1 = ((i + 1 : Nat) : Int) := rfl
    rw [hi]
    have hsn : half l (ZeP (l.take i) ++ [ZpC v]) = half l (ZeP (l.take (i + 1))) := by rw [ZaP hv]; simp [ZeP]
    rw [hsn]
    have e3 : i < (half l (ZeP (l.take i))).length := by omega
    by_cases hc : 65 ≤ v.toNat ∧ v.toNat ≤ 90
    · have e1 : decide ((v.toNat : Int) ≥ 65) = true := by simp; omega
      have e2 : decide ((v.toNat : Int) ≤ 90) = true := by simp; omega
      simp only [e1, e2, cond_true, hg, Option.bind_some, if_pos e3, ZkP hv]
      rw [ZnZ hv, Yb0 hc]
      congr 3
      rw [Ygd (by omega) (by omega)]
    · rw [Zk3 hv (Ybm hc)]
      cases e1 : decide ((v.toNat : Int) ≥ 65)
      · simp only [cond_false, Option.bind_some]
      · have e2 : decide ((v.toNat : Int) ≤ 90) = false := by simp at e1 ⊢; omega
        simp only [cond_true, hg, Option.bind_some, ZkP hv, e2, cond_false]
  · intro i b v b' hv hb hs
    cases hs
    rw [ZaP hv, hb]; simp [ZeP]
  · intro b k' hb
    rw [List.take_length] at hb
    subst hb
    have := Zkk (l := l) (i := l.length) (Nat.le_refl _)
    rw [List.take_length] at this
    simp only [Zff, ZiB, cond_false, this, Nat.le_refl, if_true, Option.bind_some]
  · rw [Zbj (fun (b : List UInt8) (v : UInt8) => b ++ [ZpC v])]
    have : ∀ (l b : List UInt8), l.foldl (fun (b : List UInt8) (v : UInt8) => b ++ [ZpC v]) b = b ++ ZeP l := by
      intro l
      induction l with
      | nil => intro b; simp [ZeP]
      | cons v l ih => intro b; simp only [List.foldl_cons, ih]; simp [ZeP]
    rw [this, List.nil_append, ZmZ]
theorem Yco {K : Zaa} (hK : Zcf K) : Zag U (Zac C K) 53 ⟨true, [.ty 9], [9], YfP⟩ :=
  ZlJ (kf hK 53 (by decide)) _ fun a r h => by
    unfold YfP at h
    split at h
    · rename_i h3; cases h; exact ⟨_, Zrt a h3⟩
    · cases h
def YhT (v : Val) : Option Bool := if v.tot ≤ B then some v.ref else none
theorem ZwB {v : Val} (h : v.tot ≤ B) : YhT v = some v.ref := if_pos h
theorem Zp6 (v : Val) (h : v.tot ≤ B) : Zep YfP 0 v = some v.ref := by
  have := v.tot_eq
  unfold Zep Val.ref
  cases e : (v.tok.k == 2)
  · rfl
  · simp only [cond_true, Zwr (show v.tok.t.length ≤ B by omega), Option.bind_some, Bool.true_and]
theorem ZjX {K : Zaa} (hK : Zcf K) : Zag U (Zac C K) 60 ⟨true, [.ty 60], [4], YhT⟩ :=
  Zh8 (kf hK 60 (by decide)) _ (Yco hK) _ fun a r h => by
    unfold YhT at h
    split at h
    · rename_i h3; cases h; exact ⟨0, Zp6 a h3⟩
    · cases h
theorem Yiw : ∀ (c : Nat), c = 118 ∨ c = 97 ∨ c = 114 → ∀ (n : Nat), n < 256 → ((IntKind.u8.wrap (BitVec.ofInt 8 (n : Int) ||| BitVec.ofInt 8 32).toNat) == (c : Int)) = decide ((ZpC (UInt8.ofNat n)).toNat = c) := by
  intro c hc
  rcases hc with rfl | rfl | rfl <;> decide +kernel
theorem Zwd {b : UInt8} {c : UInt8} (hc : c.toNat = 118 ∨ c.toNat = 97 ∨ c.toNat = 114) : ((IntKind.u8.wrap (BitVec.ofInt (IntKind.u8).bits (b.toNat : Int) ||| BitVec.ofInt (IntKind.u8).bits (32 : Int)).toNat) == (c.toNat : Int)) = (ZpC b == c) := by
  have h := Yiw c.toNat hc b.toNat b.toNat_lt
  rw [UInt8.ofNat_toNat] at h
  refine h.trans ?_
  rw [Bool.eq_iff_iff, decide_eq_true_iff, beq_iff_eq]
  exact ⟨UInt8.toNat_inj.1, fun h => h ▸ rfl⟩
theorem Zy4 (v : Val) : Zje 0 v = some v.ref := by
  unfold Zje Val.ref
  cases e : (v.tok.k == 2)
  · rfl
  · simp only [cond_true, Option.bind_some, Bool.true_and]
    have h1 := fun b => Zwd (b := b) (c := 118) (Or.inl rfl)
    have h2 := fun b => Zwd (b := b) (c := 97) (Or.inr (Or.inl rfl))
    have h3 := fun b => Zwd (b := b) (c := 114) (Or.inr (Or.inr rfl))
    have c1 : (((118 : UInt8).toNat : Nat) : Int) = 118 := rfl
    have c2 : (((97 : UInt8).toNat : Nat) : Int) = 97 := rfl
    have c3 : (((114 : UInt8).toNat : Nat) : Int) = 114 := rfl
    rw [c1] at h1
    rw [c2] at h2
    rw [c3] at h3
    rcases v.tok.t with _ | ⟨a, _ | ⟨b, _ | ⟨c, _ | ⟨d, r⟩⟩⟩⟩
    · rfl
    · have : (ZeP [a] == [118, 97, 114]) = false := by simp [ZeP]
      rw [this]; rfl
    · have : (ZeP [a, b] == [118, 97, 114]) = false := by simp [ZeP]
      rw [this]; rfl
    · have e0 : (([a, b, c].length : Int) == 3) = true := rfl
      have g0 : Zbt [a, b, c] 0 = some a := rfl
      have g1 : Zbt [a, b, c] 1 = some b := rfl
      have g2 : Zbt [a, b, c] 2 = some c := rfl
      simp only [e0, g0, g1, g2, cond_true, Option.bind_some, h1]
      have hl : (ZeP [a, b, c] == [118, 97, 114]) = (ZpC a == 118 && (ZpC b == 97 && ZpC c == 114)) := by
        simp only [ZeP, List.map_cons, List.map_nil, List.cons_beq_cons, Bool.and_true, beq_self_eq_true]
      rw [hl]
      cases e1 : (ZpC a == 118)
      · rfl
      · simp only [cond_true, Option.bind_some, h2]
        cases e2 : (ZpC b == 97)
        · rfl
        · simp only [cond_true, Option.bind_some, h3]
          rfl
    · have e0 : (((a :: b :: c :: d :: r).length : Int) == 3) = false := by
        simp only [List.length_cons, beq_eq_false_iff_ne]; omega
      have : (ZeP (a :: b :: c :: d :: r) == [118, 97, 114]) = false := by simp [ZeP]
      rw [e0, this]; rfl
theorem ZvX {K : Zaa} (hK : Zcf K) : Zag U (Zac C K) 55 ⟨true, [.ty 60], [4], fun v => some v.ref⟩ :=
  Zns (kf hK 55 (by decide)) _ fun a r h => by cases h; exact ⟨0, Zy4 a⟩
def ZwL (l : List Val) : Option Bool := if Zal l ≤ B then some (Zbg l) else none
theorem ZlG {l : List Val} (h : Zal l ≤ B) : ZwL l = some (Zbg l) := if_pos h
theorem ZvN (l : List Val) (k : Nat) (h1 : Zal l < k + 1) (h2 : Zal l ≤ B) : Zkq YfP (below Zal k ZwL) (l.length + 1) l = some (Zbg l) := by
  have hB : B = 2 ^ 36 := rfl
  unfold Zkq
  refine (Za3 l (fun (_ : Unit) => false) (fun b v => if v.hasv then .inr (some true) else .inl ()) (fun b => some false) (fun i b => True) ?_ ?_ ?_ () trivial _ (Nat.lt_succ_self _)).trans ?_
  · intro i b v k' hv hlt hb
    have hmem := List.mem_of_getElem? hv
    have hs := Zcz hmem
    have hm := Zhq hmem
    have he := v.tot_eq
    have hl := Zb3 l
    have hbel : below Zal k ZwL v.l = some (Zbg v.l) := (Zby (show Zal v.l < k by omega)).trans (ZlG (by omega))
    simp (disch := omega) only [ZgJ, ZaA hv, Option.bind_some, dlt hlt, cond_true, hbel, Za8, Zwr (show v.tok.t.length ≤ B by omega)]
    have hi : (i : Int) + 1 = ((i + 1 : Nat) : Int) := rfl
    rw [hi, Val.hasv_eq, Val.ref]
    cases e1 : (v.tok.k == 2) <;> cases e2 : (ZeP v.tok.t == [118, 97, 114]) <;> cases e5 : Zbg v.l <;> rw [e5] at hbel <;> first | rfl | simp [e2, hbel]
  · intro i b v b' hv hb hs
    trivial
  · intro b k' hb
    simp only [ZgJ, ZiB, cond_false]
  · clear h1 h2
    induction l with
    | nil => rfl
    | cons v l ih =>
      simp only [ZmL, Zbg]
      cases v.hasv with
      | true => rfl
      | false => simpa using ih
theorem Zx7 {K : Zaa} (hK : Zcf K) : Zag U (Zac C K) 31 ⟨true, [.ty 33], [4], ZwL⟩ :=
  Zbs (U := U) (ak := [.ty 33]) (rts := [4]) Zal ZwL fun k ih => Zpm (kf hK 31 (by decide)) _ _ (Yco hK) ih _ fun a r h => by
    obtain ⟨h1, h2⟩ := Za9 h
    unfold ZwL at h2
    split at h2
    · rename_i h3; cases h2; exact ⟨_, ZvN a k h1 h3⟩
    · cases h2
def ZhX : List Val → Int → Int
  | [], _ => -1
  | v :: r, i => if v.hasv then i else ZhX r (i + 1)
theorem Yaj (l : List Val) : ∀ i : Nat, decide (ZhX l (i : Int) ≥ 0) = Zbg l := by
  induction l with
  | nil => intro i; rfl
  | cons v r ih =>
    intro i
    by_cases h : v.hasv = true
    · have e : ZhX (v :: r) (i : Int) = i := by simp only [ZhX, h, if_true]
      rw [e, Zbg, h]; simp
    · have e : ZhX (v :: r) (i : Int) = ZhX r ((i + 1 : Nat) : Int) := by simp only [ZhX, if_neg h]; rfl
      rw [e, ih (i + 1), Zbg, (Bool.not_eq_true _).mp h, Bool.false_or]
def sV1 (k : Nat) (v : Val) : Option Bool := if Zal v.l < k ∧ v.tot ≤ B then some v.hasv else none
def sV2 (k : Nat) (l : List Val) : Option Int := if Zal l < k + 1 ∧ Zal l ≤ B then some (ZhX l 0) else none
def sV3 (k : Nat) (l : List Val) : Option Bool := if Zal l < k + 1 ∧ Zal l ≤ B then some (Zbg l) else none
theorem Yg2 (k : Nat) (v : Val) (h1 : Zal v.l < k) (h2 : v.tot ≤ B) : Zho YfP (below Zal k ZwL) 0 v = some v.hasv := by
  have he := v.tot_eq
  have hbel : below Zal k ZwL v.l = some (Zbg v.l) := (Zby (show Zal v.l < k by omega)).trans (ZlG (by omega))
  unfold Zho
  simp only [Zwr (show v.tok.t.length ≤ B by omega), hbel, Option.bind_some]
  rw [Val.hasv_eq, Val.ref]
  cases e1 : (v.tok.k == 2) <;> cases e2 : (ZeP v.tok.t == [118, 97, 114]) <;> cases e5 : Zbg v.l <;> first | rfl | simp [e2]
theorem Yf0 (k : Nat) (l : List Val) (h1 : Zal l < k + 1) (h2 : Zal l ≤ B) : Zax (sV1 k) (l.length + 1) l = some (ZhX l 0) := by
  have hB : B = 2 ^ 36 := rfl
  unfold Zax
  refine (Za3 l (fun (_ : Nat) => (0 : Int)) (fun b v => if v.hasv then .inr (some (b : Int)) else .inl (b + 1)) (fun b => some (-1 : Int)) (fun i b => b = i) ?_ ?_ ?_ 0 rfl _ (Nat.lt_succ_self _)).trans ?_
  · intro i b v k' hv hlt hb
    subst hb
    have hmem := List.mem_of_getElem? hv
    have hs := Zcz hmem
    have hm := Zhq hmem
    have hl := Zb3 l
    have h3 : sV1 k (Val.mk v.tok v.l) = some v.hasv := by rw [Val.eta]; exact if_pos ⟨by omega, by omega⟩
    simp (disch := omega) only [Zau, ZaA hv, Option.bind_some, dlt hlt, cond_true, h3, Za8]
    cases v.hasv <;> rfl
  · intro i b v b' hv hb hs
    subst hb
    cases e : v.hasv <;> rw [e] at hs <;> cases hs
    rfl
  · intro b k' hb
    simp only [Zau, ZiB, cond_false]
  · clear h1 h2
    have : ∀ (l : List Val) (b : Nat), ZmL (fun (b : Nat) (v : Val) => if v.hasv then .inr (some (b : Int)) else .inl (b + 1)) (fun _ => some (-1 : Int)) l b = some (ZhX l (b : Int)) := by
      intro l
      induction l with
      | nil => intro b; rfl
      | cons v l ih =>
        intro b
        simp only [ZmL, ZhX]
        cases v.hasv with
        | true => rfl
        | false => exact ih (b + 1)
    exact this l 0
theorem Yh0 {K : Zaa} (hK : Zcf K) : Zag U (Zac C K) 29 ⟨true, [.ty 33], [4], ZwL⟩ :=
  Zbs (U := U) (ak := [.ty 33]) (rts := [4]) Zal ZwL fun k ih =>
    have m1 : Zag U (Zac C K) 51 ⟨true, [.ty 60], [4], sV1 k⟩ := ZlL (kf hK 51 (by decide)) _ _ (Yhe hK) ih _ fun a r h => by
      unfold sV1 at h
      split at h
      · rename_i h3; cases h; exact ⟨0, Yg2 k a h3.1 h3.2⟩
      · cases h
    have m2 : Zag U (Zac C K) 70 ⟨true, [.ty 33, .fn 51], [3], sV2 k⟩ := Zbw (kf hK 70 (by decide)) _ m1 _ fun a r h => by
      unfold sV2 at h
      split at h
      · rename_i h3; cases h; exact ⟨_, Yf0 k a h3.1 h3.2⟩
      · cases h
    have m3 : Zag U (Zac C K) 50 ⟨true, [.ty 33, .fn 51], [4], sV3 k⟩ := Zbl (kf hK 50 (by decide)) _ m2 _ fun a r h => by
      unfold sV3 at h
      split at h
      · rename_i h3; cases h
        refine ⟨0, ?_⟩
        unfold ZaD
        rw [show sV2 k a = some (ZhX a 0) from if_pos h3]
        exact congrArg some (Yaj a 0)
      · cases h
    Zoi (kf hK 29 (by decide)) _ m3 _ fun a r h => by
      obtain ⟨h1, h2⟩ := Za9 h
      unfold ZwL at h2
      split at h2
      · rename_i h3; cases h2
        refine ⟨0, ?_⟩
        unfold Zo6
        rw [show sV3 k a = some (Zbg a) from if_pos ⟨h1, h3⟩]
        rfl
      · cases h2
end Go.Tev.S1
namespace Go.Tev
open Go.Abs
mutual
def Val.siz (lim : Int) : Val → Int
  | .mk t l => IntKind.i64.wrap ((IntKind.i64.wrap ((IntKind.i64.wrap ((1 : Int) + (t.t.length : Int))) + (t.u.length : Int))) + ZzX lim 0 l)
def ZzX (lim acc : Int) : List Val → Int
  | [] => acc
  | v :: r => if acc ≤ lim then ZzX lim (IntKind.i64.wrap (acc + v.siz (IntKind.i64.wrap (lim - acc)))) r else acc
end
theorem Val.siz_eq (lim : Int) (v : Val) : v.siz lim = IntKind.i64.wrap ((IntKind.i64.wrap ((IntKind.i64.wrap ((1 : Int) + (v.tok.t.length : Int))) + (v.tok.u.length : Int))) + ZzX lim 0 v.l) := by cases v; rfl
mutual
def Val.eqb : Val → Val → Bool
  | .mk t l, .mk t' l' => Tok.eqb t t' && Zy8 l l'
def Zy8 : List Val → List Val → Bool
  | [], [] => true
  | v :: r, v' :: r' => v.eqb v' && Zy8 r r'
  | _, _ => false
end
end Go.Tev
namespace Go.Tev.S1
open Go.Abs Go.Proofs
def ZpF (a : List Val × Int) : Option Int := if Zal a.1 ≤ B then some (ZzX a.2 0 a.1) else none
theorem ZrN {l : List Val} {c : Int} (h : Zal l ≤ B) : ZpF (l, c) = some (ZzX c 0 l) := if_pos h
theorem Ycq (lim : Int) (l : List Val) (k : Nat) (h1 : Zal l < k + 1) (h2 : Zal l ≤ B) : ZiK (below (fun a : List Val × Int => Zal a.1) k ZpF) (l.length + 2) l lim = some (ZzX lim 0 l) := by
  have hB : B = 2 ^ 36 := rfl
  unfold ZiK ZcS
  have main : ∀ (r : List Val) (i : Nat) (acc : Int) (fuel : Nat), l.drop i = r → i ≤ l.length → r.length + 1 < fuel → Zhv (fun y k_1 => Zdk (below (fun a : List Val × Int => Zal a.1) k ZpF) (l.length + 2) l lim 0 (fun z1 => some z1) y.1 y.2.1 fun a0 a1 => k_1 (a0, a1, ())) fuel (acc, (i : Int), ()) = some (ZzX lim acc r) := by
    intro r
    induction r with
    | nil =>
      intro i acc fuel hr hi hf
      obtain ⟨n, rfl⟩ : ∃ n, fuel = n + 1 := ⟨fuel - 1, by omega⟩
      have : i = l.length := by
        have := congrArg List.length hr
        simp at this; omega
      subst this
      simp only [Zhv, Zdk, ZiB, cond_false, Option.bind_some, ZzX]
    | cons v r ih =>
      intro i acc fuel hr hi hf
      obtain ⟨n, rfl⟩ : ∃ n, fuel = n + 1 := ⟨fuel - 1, by omega⟩
      have hv : l[i]? = some v := by
        have := congrArg (fun x => x[0]?) hr
        simpa using this
      have hlt : i < l.length := (List.getElem?_eq_some_iff.1 hv).1
      have hr' : l.drop (i + 1) = r := by rw [← List.drop_drop, hr]; rfl
      have hmem := List.mem_of_getElem? hv
      have hs := Zcz hmem
      have hl := Zb3 l
      have hbel : below (fun a : List Val × Int => Zal a.1) k ZpF (v.l, IntKind.i64.wrap (lim - acc)) = some (ZzX (IntKind.i64.wrap (lim - acc)) 0 v.l) := (Zby (sz := fun a : List Val × Int => Zal a.1) (show Zal v.l < k by omega)).trans (ZrN (by omega))
      rw [ZzX, Val.siz_eq]
      by_cases hc : acc ≤ lim
      · have e1 : decide (acc ≤ lim) = true := decide_eq_true hc
        rw [if_pos hc]
        simp only [Zhv, Zdk, dlt hlt, cond_true, Option.bind_some, e1, ZaA hv, hbel]
        rw [Zaz (by omega)]
        exact ih (i + 1) _ n hr' (by omega) (by simp at hf; omega)
      · have e1 : decide (acc ≤ lim) = false := decide_eq_false hc
        rw [if_neg hc]
        simp only [Zhv, Zdk, dlt hlt, cond_true, cond_false, Option.bind_some, e1]
  exact main l 0 0 (l.length + 2) rfl (Nat.zero_le _) (by omega)
theorem Yfu {K : Zaa} (hK : Zcf K) : Zag U (Zac C K) 22 ⟨true, [.ty 33, .ty 3], [3], ZpF⟩ :=
  Zbs (U := U) (ak := [.ty 33, .ty 3]) (rts := [3]) (fun a : List Val × Int => Zal a.1) ZpF fun k ih => Zng (kf hK 22 (by decide)) _ ih _ fun a r h => by
    obtain ⟨h1, h2⟩ := Za9 h
    unfold ZpF at h2
    split at h2
    · rename_i h3; cases h2; exact ⟨_, Ycq a.2 a.1 k h1 h3⟩
    · cases h2
def Ya0 (l : List Val) : Bool := decide (ZzX 300 0 l > 300) || decide (ZgK l > 40)
def ZtD (l : List Val) : Option Bool := if Zal l ≤ B then some (Ya0 l) else none
theorem Ycs {l : List Val} (h : Zal l ≤ B) : ZtD l = some (Ya0 l) := if_pos h
theorem ZyN (l : List Val) (h : Zal l ≤ B) : Zhx ZpF Zvp 0 l = some (Ya0 l) := by
  unfold Zhx Ya0
  rw [ZrN h, Zrn h]
  simp only [Option.bind_some]
  have : decide ((ZgK l : Int) > 40) = decide (ZgK l > 40) := by simp; omega
  rw [← this]
  cases decide (ZzX 300 0 l > 300) <;> rfl
theorem YfU {K : Zaa} (hK : Zcf K) : Zag U (Zac C K) 12 ⟨true, [.ty 33], [4], ZtD⟩ :=
  Zmv (kf hK 12 (by decide)) _ _ (Yfu hK) (YfD (kf hK 33 (by decide)) (kf hK 54 (by decide))) _ fun a r h => by
    unfold ZtD at h
    split at h
    · rename_i h3; cases h; exact ⟨0, ZyN a h3⟩
    · cases h
def Zu0 (a : List Val × List Val) : Option Bool := if Zal a.1 ≤ B ∧ Zal a.2 ≤ B then some (Zy8 a.1 a.2) else none
theorem ZxN {l m : List Val} (h : Zal l ≤ B) (h2 : Zal m ≤ B) : Zu0 (l, m) = some (Zy8 l m) := if_pos ⟨h, h2⟩
theorem Val.eqb_eq (v w : Val) : v.eqb w = (Tok.eqb v.tok w.tok && Zy8 v.l w.l) := by cases v; cases w; rfl
theorem ZxA : ∀ (l m : List Val), l.length ≠ m.length → Zy8 l m = false
  | [], [], h => absurd rfl h
  | [], _ :: _, _ => rfl
  | _ :: _, [], _ => rfl
  | v :: r, w :: s, h => by
    rw [Zy8, ZxA r s (by simp at h; exact h), Bool.and_false]
theorem YbQ (l m : List Val) (k : Nat) (h1 : Zal l < k + 1) (h2 : Zal l ≤ B) (h3 : Zal m ≤ B) : ZiS (below (fun a : List Val × List Val => Zal a.1) k Zu0) (l.length + 1) l m = some (Zy8 l m) := by
  have hB : B = 2 ^ 36 := rfl
  unfold ZiS
  by_cases hle : l.length = m.length
  · have e0 : ((l.length : Int) != (m.length : Int)) = false := by simp [hle]
    rw [e0, cond_false]
    refine (Za3 (l.zip m) (fun (_ : Unit) => false) (fun b v => if v.1.eqb v.2 then .inl () else .inr (some false)) (fun b => some true) (fun i b => True) ?_ ?_ ?_ () trivial _ (by simp; omega)).trans ?_
    · intro i b v k' hv hlt hb
      have hz : i < l.length ∧ i < m.length := by simp at hlt; omega
      obtain ⟨hv1, hv2⟩ := List.getElem?_zip_eq_some.1 hv
      have hmem := List.mem_of_getElem? hv1
      have hmem2 := List.mem_of_getElem? hv2
      have hs := Zcz hmem
      have hs2 := Zcz hmem2
      have hl := Zb3 l
      have hbel : below (fun a : List Val × List Val => Zal a.1) k Zu0 (v.1.l, v.2.l) = some (Zy8 v.1.l v.2.l) := (Zby (sz := fun a : List Val × List Val => Zal a.1) (show Zal v.1.l < k by omega)).trans (ZxN (by omega) (by omega))
      simp (disch := omega) only [ZfH, ZaA hv1, ZaA hv2, Option.bind_some, dlt hz.1, cond_true, hbel, Za8]
      have hi : (i : Int) + 1 = ((i + 1 : Nat) : Int) := rfl
      rw [hi, Val.eqb_eq]
      cases e1 : Tok.eqb v.1.tok v.2.tok <;> cases e5 : Zy8 v.1.l v.2.l <;> rw [e5] at hbel <;> first | rfl | simp [hbel]
    · intro i b v b' hv hb hs
      trivial
    · intro b k' hb
      have : (l.zip m).length = l.length := by simp; omega
      rw [this]
      simp only [ZfH, ZiB, cond_false]
    · clear h1 h2 h3 e0
      induction l generalizing m with
      | nil => cases m with
        | nil => rfl
        | cons w m => simp at hle
      | cons v l ih => cases m with
        | nil => simp at hle
        | cons w m =>
          simp only [List.zip_cons_cons, ZmL, Zy8]
          cases v.eqb w with
          | true => simpa using ih m (by simp at hle; exact hle)
          | false => rfl
  · have e0 : ((l.length : Int) != (m.length : Int)) = true := by simp; omega
    rw [e0, ZxA l m hle]; rfl
theorem Yir {K : Zaa} (hK : Zcf K) : Zag U (Zac C K) 21 ⟨true, [.ty 33, .ty 33], [4], Zu0⟩ :=
  Zbs (U := U) (ak := [.ty 33, .ty 33]) (rts := [4]) (fun a : List Val × List Val => Zal a.1) Zu0 fun k ih => Znc (kf hK 21 (by decide)) _ ih _ fun a r h => by
    obtain ⟨h1, h2⟩ := Za9 h
    unfold Zu0 at h2
    split at h2
    · rename_i h3; cases h2; exact ⟨_, YbQ a.1 a.2 k h1 h3.1 h3.2⟩
    · cases h2
def Zr9 (l : List Val) : Option (List Val) := if Zal l ≤ B then some l else none
theorem ZsP {l : List Val} (h : Zal l ≤ B) : Zr9 l = some l := if_pos h
theorem Ycu (l : List Val) (k : Nat) (h1 : Zal l < k + 1) (h2 : Zal l ≤ B) : Zjh (below Zal k Zr9) (l.length + 1) l = some l := by
  have hB : B = 2 ^ 36 := rfl
  unfold Zjh
  refine (Za3 l (fun (b : List Val) => b) (fun b v => .inl (b ++ [v])) (fun b => some b) (fun i b => b = l.take i) ?_ ?_ ?_ [] rfl _ (Nat.lt_succ_self _)).trans ?_
  · intro i b v k' hv hlt hb
    subst hb
    have hmem := List.mem_of_getElem? hv
    have hs := Zcz hmem
    have hl := Zb3 l
    have hbel : below Zal k Zr9 v.l = some v.l := (Zby (show Zal v.l < k by omega)).trans (ZsP (by omega))
    have r1 : room 80 ((l.take i).length + [v].length) = some () := Zej (by simp; omega) (by decide)
    simp (disch := omega) only [ZfF, ZaA hv, Option.bind_some, dlt hlt, cond_true, hbel, Val.eta, r1, Za8]
    rfl
  · intro i b v b' hv hb hs
    cases hs
    rw [ZaP hv, hb]
  · intro b k' hb
    simp only [ZfF, ZiB, cond_false]
  · rw [Zbj (fun (b : List Val) (v : Val) => b ++ [v]), Zc6]
theorem YfM {K : Zaa} (hK : Zcf K) : Zag U (Zac C K) 13 ⟨true, [.ty 33], [33], Zr9⟩ :=
  Zbs (U := U) (ak := [.ty 33]) (rts := [33]) Zal Zr9 fun k ih => ZnI (kf hK 13 (by decide)) _ ih _ fun a r h => by
    obtain ⟨h1, h2⟩ := Za9 h
    unfold Zr9 at h2
    split at h2
    · rename_i h3; cases h2; exact ⟨_, Ycu a k h1 h3⟩
    · cases h2
end Go.Tev.S1
namespace Go.Tev.S1
open Go.Abs Go.Proofs
theorem Yal (l : List Val) (k : Nat) (h1 : Zal l < k + 1) (h2 : Zal l ≤ B) : Zhs (below Zal k Zgm) (l.length + 1) l = some (Zal l : Int) := by
  have hB : B = 2 ^ 36 := rfl
  unfold Zhs
  refine (Za3 l (fun (b : List Val) => (Zal b : Int)) (fun b v => .inl (b ++ [v])) (fun b => some (Zal b : Int)) (fun i b => b = l.take i) ?_ ?_ ?_ [] rfl _ (Nat.lt_succ_self _)).trans ?_
  · intro i b v k' hv hlt hb
    subst hb
    have hmem := List.mem_of_getElem? hv
    have hs := Zcz hmem
    have ht := ZnV hv
    have hle := Zcs l (i + 1)
    have hl := Zb3 l
    have he := v.tot_eq
    have hbel : below Zal k Zgm v.l = some (Zal v.l : Int) := (Zby (show Zal v.l < k by omega)).trans (Zgs (by omega))
    simp (disch := omega) only [Ze9, ZaA hv, Option.bind_some, dlt hlt, cond_true, hbel, Za8]
    have hx : (Zal (l.take i) : Int) + (1 + (v.tok.t.length : Int) + (v.tok.u.length : Int) + (Zal v.l : Int)) = (Zal (l.take i ++ [v]) : Int) := by
      rw [Zgi]; simp only [Zal]; omega
    rw [hx]; rfl
  · intro i b v b' hv hb hs
    cases hs
    rw [ZaP hv, hb]
  · intro b k' hb
    simp only [Ze9, ZiB, cond_false]
  · rw [Zbj (fun (b : List Val) (v : Val) => b ++ [v]), Zc6]
theorem Ybc {K : Zaa} (hK : Zcf K) : Zag U (Zac C K) 30 ⟨true, [.ty 33], [3], Zgm⟩ :=
  Zbs (U := U) (ak := [.ty 33]) (rts := [3]) Zal Zgm fun k ih => Zl4 (kf hK 30 (by decide)) _ ih _ fun a r h => by
    obtain ⟨h1, h2⟩ := Za9 h
    obtain ⟨h3, rfl⟩ := ZqG h2
    exact ⟨_, Yal a k h1 h3⟩
theorem Zmm {R : Type} (G : List Val → (List Val → Option R) → Option R) (kx : List Val → Option R)
    (hG : ∀ l k, G l k = match l with
      | [] => kx []
      | v :: r => if sp v then k r else kx (v :: r)) : ∀ (l : List Val) (n : Nat), l.length < n → Zll G n l = kx (spL l)
  | [], n, h => by
    obtain ⟨n, rfl⟩ : ∃ m, n = m + 1 := ⟨n - 1, by omega⟩
    rw [Zf0, hG]; rfl
  | v :: r, n, h => by
    obtain ⟨n, rfl⟩ : ∃ m, n = m + 1 := ⟨n - 1, by omega⟩
    rw [Zf0, hG, spL]
    simp only
    by_cases hv : sp v = true
    · rw [if_pos hv, if_pos hv]
      exact Zmm G kx hG r n (by simp at h; omega)
    · rw [if_neg hv, if_neg hv]
theorem ZvZ {R : Type} (G : List Val → (List Val → Option R) → Option R) (kx : List Val → Option R)
    (h0 : ∀ k, G [] k = kx []) (hG : ∀ l v k, l.length < 2 ^ 62 → G (l ++ [v]) k = if sp v then k l else kx (l ++ [v])) : ∀ (m l : List Val) (n : Nat), l.reverse = m → l.length < n → l.length < 2 ^ 62 → Zll G n l = kx (trR l)
  | [], l, n, e, h, hb => by
    have : l = [] := by simpa using e
    subst this
    obtain ⟨n, rfl⟩ : ∃ m, n = m + 1 := ⟨n - 1, by omega⟩
    rw [Zf0, h0]; rfl
  | v :: r, l, n, e, h, hb => by
    have : l = r.reverse ++ [v] := by rw [← List.reverse_reverse l, e]; simp
    subst this
    simp at hb h
    obtain ⟨n, rfl⟩ : ∃ m, n = m + 1 := ⟨n - 1, by omega⟩
    rw [Zf0, hG _ _ _ (by simp; omega)]
    have e2 : trR (r.reverse ++ [v]) = if sp v then trR r.reverse else r.reverse ++ [v] := by
      unfold trR
      rw [e, spL]
      split
      · simp
      · simp
    rw [e2]
    by_cases hv : sp v = true
    · rw [if_pos hv, if_pos hv]
      exact ZvZ G kx h0 hG r r.reverse n (by simp) (by simp; omega) (by simp; omega)
    · rw [if_neg hv, if_neg hv]
theorem Zyo {v : Val} {r : List Val} : Zbt (v :: r) 0 = some v := rfl
theorem Zle {v : Val} {r : List Val} : ZpL (v :: r) 1 ((v :: r).length : Int) = some r := by
  unfold ZpL
  rw [if_pos (by simp; omega)]
  simp
theorem Zxg {v : Val} {r : List Val} : decide (((v :: r).length : Int) > 0) = true := by simp
theorem Zvb {l : List Val} {v : Val} : Zbt (l ++ [v]) (l.length : Int) = some v := ZaA (by simp)
theorem Zvj {l : List Val} {v : Val} : ZpL (l ++ [v]) 0 (l.length : Int) = some l := by
  unfold ZpL
  rw [if_pos (by simp; omega)]
  simp
theorem Zwx (l : List Val) : ZhB (l.length + 1) l = some (spL l) := by
  unfold ZhB
  refine Zmm _ (fun z => some z) ?_ l _ (Nat.lt_succ_self _)
  intro l k
  cases l with
  | nil => rfl
  | cons v r =>
    simp only [ZgR, Zxg, cond_true, Zyo, Option.bind_some, Zle, sp]
    exact Bool.cond_eq_ite _ _ _
theorem Zxx {K : Zaa} (hK : Zcf K) : Zag U (Zac C K) 71 ⟨true, [.ty 33], [33], fun l => some (spL l)⟩ :=
  ZlW (kf hK 71 (by decide)) _ fun a r h => by cases h; exact ⟨_, Zwx a⟩
def Zn9 (l : List Val) : Option (List Val) := if Zal l ≤ B then some (trL l) else none
theorem Zym {l : List Val} (h : Zal l ≤ B) : Zn9 l = some (trL l) := if_pos h
theorem Zue {l : List Val} {v : Val} (h : l.length < 2 ^ 62) : IntKind.i64.wrap (((l ++ [v]).length : Int) - 1) = (l.length : Int) := by
  rw [Za8 (by simp <;> omega) (by simp <;> omega)]; simp only [List.length_append, List.length_cons, List.length_nil]; omega
theorem Zw6 {v : Val} {r : List Val} : decide (((r ++ [v]).length : Int) > 0) = true := by simp
theorem Ycw (l : List Val) (h : Zal l ≤ B) : Zkt (fun l => some (spL l)) ((spL l).length + 1) l = some (trL l) := by
  have hB : B = 2 ^ 36 := rfl
  unfold Zkt
  simp only [Option.bind_some]
  have h1 := Zb3 (spL l)
  have h2 := ZjE l
  refine ZvZ _ (fun z => some z) ?_ ?_ _ (spL l) _ rfl (Nat.lt_succ_self _) (by omega)
  · intro k; rfl
  · intro l v k hl
    simp only [Zih, Zw6, cond_true, Zue hl, Zvb, Option.bind_some, Zvj, sp]
    exact Bool.cond_eq_ite _ _ _
theorem YiS {K : Zaa} (hK : Zcf K) : Zag U (Zac C K) 72 ⟨true, [.ty 33], [33], Zn9⟩ :=
  Zpl (kf hK 72 (by decide)) _ (Zxx hK) _ fun a r h => by
    unfold Zn9 at h
    split at h
    · rename_i h3; cases h; exact ⟨_, Ycw a h3⟩
    · cases h
theorem Zuq (l : List Val) (h : Zal l ≤ B) : ZfK (l.length + 1) l = some (trL l) := by
  have hB : B = 2 ^ 36 := rfl
  unfold ZfK
  have h1 := Zb3 (spL l)
  have h2 := ZjE l
  have h3 : (spL l).length ≤ l.length := by
    clear h h1 h2
    induction l with
    | nil => exact Nat.le_refl _
    | cons v r ih => unfold spL; split <;> simp <;> omega
  refine (Zmm _ (fun z1 => Zll (ZdA (l.length + 1) [] fun z2 => some z2) (l.length + 1) z1) ?_ l _ (Nat.lt_succ_self _)).trans ?_
  · intro l k
    cases l with
    | nil => rfl
    | cons v r =>
      simp only [ZfA, Zxg, cond_true, Zyo, Option.bind_some, Zle, sp]
      exact Bool.cond_eq_ite _ _ _
  · refine ZvZ _ (fun z => some z) ?_ ?_ _ (spL l) _ rfl (by omega) (by omega)
    · intro k; rfl
    · intro l v k hl
      simp only [ZdA, Zw6, cond_true, Zue hl, Zvb, Option.bind_some, Zvj, sp]
      exact Bool.cond_eq_ite _ _ _
theorem Yam {K : Zaa} (hK : Zcf K) : Zag U (Zac C K) 76 ⟨true, [.ty 33], [33], Zn9⟩ :=
  Zkd (kf hK 76 (by decide)) _ fun a r h => by
    unfold Zn9 at h
    split at h
    · rename_i h3; cases h; exact ⟨_, Zuq a h3⟩
    · cases h
end Go.Tev.S1
namespace Go.Tev.S1
open Go.Abs Go.Proofs
def ZiA (v : Val) : Option (List UInt8 × List Val × Bool) := if v.tot ≤ B then some (Zav v.l) else none
theorem ZgW {v : Val} (h : v.tot ≤ B) : ZiA v = some (Zav v.l) := if_pos h
theorem Zxt {α : Type} {v : α} {r : List α} : (((v :: r).length : Int) == 0) = false := by simp; omega
theorem Zy0 (v : Val) (h : v.tot ≤ B) : Zi0 (fun l => some (spL l)) (fun p => some (Za4 p)) Zn9 0 v = some (Zav v.l) := by
  have he := v.tot_eq
  have hs := ZjE v.l
  unfold Zi0 Zav
  simp only [Option.bind_some]
  cases e : spL v.l with
  | nil => rfl
  | cons x r =>
    rw [e] at hs
    simp only [Zal] at hs
    have hs2 := ZjE r
    simp only [Zxt, Bool.not_false, cond_true, cond_false, Zyo, Option.bind_some, Zle]
    by_cases h1 : x.tok.k = 1
    · have e1 : (x.tok.k != 1) = false := by simpa using h1
      by_cases h2 : Za4 x.tok.t = true
      · rw [if_pos ⟨h1, h2⟩]
        simp only [e1, h2, Bool.not_false, Bool.not_true, cond_true, cond_false, Option.bind_some]
        cases e3 : spL r with
        | nil => rfl
        | cons y s =>
          rw [e3] at hs2
          simp only [Zal] at hs2
          simp only [Zxt, cond_false, Zyo, Option.bind_some, Zle, Zym (show Zal s ≤ B by omega)]
          by_cases h4 : y.tok.k = 18
          · rw [if_pos h4, h4]; rfl
          · have e4 : (y.tok.k == 18) = false := by simpa using h4
            rw [if_neg h4, e4]; rfl
      · rw [if_neg (fun hh => h2 hh.2)]
        have h2' : Za4 x.tok.t = false := (Bool.not_eq_true _).mp h2
        simp only [e1, h2', Bool.not_false, cond_true, cond_false, Option.bind_some]
    · have e1 : (x.tok.k != 1) = true := by simpa using h1
      rw [if_neg (fun hh => h1 hh.1)]
      simp only [e1, Bool.not_true, cond_true, cond_false, Option.bind_some]
theorem Zwt {K : Zaa} (hK : Zcf K) : Zag U (Zac C K) 56 ⟨true, [.ty 60], [9, 33, 4], ZiA⟩ :=
  Zne (kf hK 56 (by decide)) _ _ _ (Zxx hK) (ZxY hK) (YiS hK) _ fun a r h => by
    unfold ZiA at h
    split at h
    · rename_i h3; cases h; exact ⟨0, Zy0 a h3⟩
    · cases h
theorem Zws {R : Type} (l : List Val) (G : Int → (Int → Option R) → Option R) (kx : Int → Option R)
    (hG : ∀ (i : Nat) v k, l[i]? = some v → i < l.length → G (i : Int) k = if sp v then k ((i + 1 : Nat) : Int) else kx (i : Int)) (h0 : ∀ k, G (l.length : Int) k = kx (l.length : Int)) :
    ∀ (m : List Val) (i n : Nat), l.drop i = m → i ≤ l.length → m.length < n → ∃ j, i ≤ j ∧ j ≤ l.length ∧ l.drop j = spL m ∧ Zll G n (i : Int) = kx (j : Int)
  | [], i, n, e, hi, hn => by
    obtain ⟨n, rfl⟩ : ∃ m, n = m + 1 := ⟨n - 1, by omega⟩
    have : i = l.length := by
      have := congrArg List.length e
      simp at this; omega
    subst this
    exact ⟨_, Nat.le_refl _, Nat.le_refl _, e, by rw [Zf0, h0]⟩
  | v :: r, i, n, e, hi, hn => by
    obtain ⟨n, rfl⟩ : ∃ m, n = m + 1 := ⟨n - 1, by omega⟩
    have hv : l[i]? = some v := by
      have := congrArg (fun x => x[0]?) e
      simpa using this
    have hlt : i < l.length := (List.getElem?_eq_some_iff.1 hv).1
    have hr' : l.drop (i + 1) = r := by rw [← List.drop_drop, e]; rfl
    rw [Zf0, hG i v _ hv hlt, spL]
    by_cases hs : sp v = true
    · rw [if_pos hs, if_pos hs]
      obtain ⟨j, h1, h2, h3, h4⟩ := Zws l G kx hG h0 r (i + 1) n hr' (by omega) (by simp at hn; omega)
      exact ⟨j, by omega, h2, h3, h4⟩
    · rw [if_neg hs, if_neg hs]
      exact ⟨i, Nat.le_refl _, hi, e, rfl⟩
theorem ZxC {l : List Val} {j : Nat} (hj : j ≤ l.length) (h : l.drop j = []) : (j : Int) = (l.length : Int) := by
  have := congrArg List.length h
  simp at this; omega
theorem drop_cons {l : List Val} {j : Nat} {x : Val} {r : List Val} (h : l.drop j = x :: r) : l[j]? = some x ∧ j < l.length ∧ l.drop (j + 1) = r := by
  have hv : l[j]? = some x := by
    have := congrArg (fun x => x[0]?) h
    simpa using this
  exact ⟨hv, (List.getElem?_eq_some_iff.1 hv).1, by rw [← List.drop_drop, h]; rfl⟩
theorem ZzO (v : Val) (h : v.tot ≤ B) : Zht (fun p => some (Za4 p)) Zn9 (v.l.length + 1) v = some (Zav v.l) := by
  have hB : B = 2 ^ 36 := rfl
  have he := v.tot_eq
  have hs := ZjE v.l
  have hl := Zb3 v.l
  unfold Zht
  have step0 : ∀ (kx : Int → Option (List UInt8 × List Val × Bool)), ∃ j, j ≤ v.l.length ∧ v.l.drop j = spL v.l ∧ Zll (ZcB (fun p => some (Za4 p)) Zn9 (v.l.length + 1) [] [] false v.l kx) (v.l.length + 1) 0 = kx (j : Int) := by
    intro kx
    obtain ⟨j, h1, h2, h3, h4⟩ := Zws v.l (ZcB (fun p => some (Za4 p)) Zn9 (v.l.length + 1) [] [] false v.l kx) kx (by
      intro i w k hw hi
      simp (disch := omega) only [ZcB, dlt hi, cond_true, ZaA hw, Option.bind_some, Za8, sp]
      exact Bool.cond_eq_ite _ _ _) (by
      intro k
      simp only [ZcB, ZiB, cond_false, Option.bind_some]) v.l 0 (v.l.length + 1) rfl (Nat.zero_le _) (Nat.lt_succ_self _)
    exact ⟨j, h2, h3, h4⟩
  have step2 : ∀ (i : Nat) (t : List UInt8) (kx : Int → Option (List UInt8 × List Val × Bool)), i ≤ v.l.length → ∃ j, j ≤ v.l.length ∧ v.l.drop j = spL (v.l.drop i) ∧ Zll (ZcA (fun p => some (Za4 p)) Zn9 (v.l.length + 1) [] [] false v.l t kx) (v.l.length + 1) (i : Int) = kx (j : Int) := by
    intro i t kx hi
    obtain ⟨j, h1, h2, h3, h4⟩ := Zws v.l (ZcA (fun p => some (Za4 p)) Zn9 (v.l.length + 1) [] [] false v.l t kx) kx (by
      intro i w k hw hi
      simp (disch := omega) only [ZcA, dlt hi, cond_true, ZaA hw, Option.bind_some, Za8, sp]
      exact Bool.cond_eq_ite _ _ _) (by
      intro k
      simp only [ZcA, ZiB, cond_false, Option.bind_some]) (v.l.drop i) i (v.l.length + 1) rfl hi (by simp; omega)
    exact ⟨j, h2, h3, h4⟩
  obtain ⟨j, hj, hd, hw⟩ := step0 _
  rw [hw]
  unfold Zav
  rw [← hd] at hs ⊢
  cases e : v.l.drop j with
  | nil =>
    rw [ZxC hj e]
    simp only [beq_self_eq_true, Bool.not_true, cond_true, cond_false, Option.bind_some]
  | cons x r =>
    rw [e] at hs
    simp only [Zal] at hs
    obtain ⟨hx, hlt, hr⟩ := drop_cons e
    have ej : ((j : Int) == (v.l.length : Int)) = false := by simp; omega
    simp only [ej, Bool.not_false, cond_true, cond_false, ZaA hx, Option.bind_some]
    by_cases h1 : x.tok.k = 1
    · have e1 : (x.tok.k != 1) = false := by simpa using h1
      by_cases h2 : Za4 x.tok.t = true
      · rw [if_pos ⟨h1, h2⟩]
        simp only [e1, h2, Bool.not_false, Bool.not_true, cond_true, cond_false, Option.bind_some]
        rw [Zaz (by omega)]
        obtain ⟨i, hi, hd2, hw2⟩ := step2 (j + 1) x.tok.t _ (by omega)
        rw [hw2, ← hr, ← hd2]
        have hs2 := ZjE r
        rw [← hr, ← hd2] at hs2
        cases e3 : v.l.drop i with
        | nil =>
          rw [ZxC hi e3]
          simp only [beq_self_eq_true, cond_true]
        | cons y s =>
          rw [e3, hr] at hs2
          simp only [Zal] at hs2
          obtain ⟨hy, hlt2, hr2⟩ := drop_cons e3
          have ei : ((i : Int) == (v.l.length : Int)) = false := by simp; omega
          have hsub : ZpL v.l (IntKind.i64.wrap ((i : Int) + 1)) (v.l.length : Int) = some s := by
            rw [Zaz (by omega)]
            unfold ZpL
            rw [if_pos (by omega)]
            simp [hr2]
          simp only [ei, cond_false, ZaA hy, Option.bind_some, hsub, Zym (show Zal s ≤ B by omega)]
          by_cases h4 : y.tok.k = 18
          · have e4 : (y.tok.k != 18) = false := by simpa using h4
            rw [if_pos h4, e4]; rfl
          · have e4 : (y.tok.k != 18) = true := by simpa using h4
            rw [if_neg h4, e4]; rfl
      · rw [if_neg (fun hh => h2 hh.2)]
        have h2' : Za4 x.tok.t = false := (Bool.not_eq_true _).mp h2
        simp only [e1, h2', Bool.not_false, cond_true, cond_false, Option.bind_some]
    · have e1 : (x.tok.k != 1) = true := by simpa using h1
      rw [if_neg (fun hh => h1 hh.1)]
      simp only [e1, Bool.not_true, cond_true, cond_false, Option.bind_some]
theorem Zwc {K : Zaa} (hK : Zcf K) : Zag U (Zac C K) 61 ⟨true, [.ty 60], [9, 33, 4], ZiA⟩ :=
  ZlH (kf hK 61 (by decide)) _ _ (ZoQ hK) (Yam hK) _ fun a r h => by
    unfold ZiA at h
    split at h
    · rename_i h3; cases h; exact ⟨_, ZzO a h3⟩
    · cases h
end Go.Tev.S1
namespace Go.Tev
open Go.Abs
abbrev V : Nat := 2 ^ 24
abbrev Lk := List UInt8 → Option (List Val)
theorem ZwK (v : Val) (r : List Val) : Zal r < Zal (v :: r) := by
  simp only [Zal, Val.tot_eq]; omega
theorem ZxM (v : Val) (r : List Val) : Zal v.l < Zal (v :: r) := by
  simp only [Zal, Val.tot_eq]; omega
theorem Zoq (v : Val) (r : List Val) : Zal (Zav v.l).2.1 < Zal (v :: r) :=
  Nat.lt_of_le_of_lt (Ziz v.l) (ZxM v r)
def ZmU (a b : Option Nat) : Option Nat := match a, b with
  | some m, some n => some (m + n)
  | _, _ => none
theorem Zgj {a b : Option Nat} {n : Nat} (h : ZmU a b = some n) : ∃ x y, a = some x ∧ b = some y ∧ n = x + y := by
  unfold ZmU at h
  split at h
  · exact ⟨_, _, rfl, rfl, (Option.some.inj h).symm⟩
  · cases h
def Zfr (lk : Lk) : List Val → Option Nat
  | [] => some 0
  | v :: r => ZmU (if v.ref then (match lk (Zav v.l).1 with
      | some x => some (Zal x)
      | none => if (Zav v.l).2.2 then Zfr lk (Zav v.l).2.1 else none)
    else ZmU (some (1 + v.tok.t.length + v.tok.u.length)) (Zfr lk v.l)) (Zfr lk r)
termination_by l => Zal l
decreasing_by
  · exact Zoq v r
  · exact ZxM v r
  · exact ZwK v r
def ZwT (lk : Lk) (v : Val) : Option Nat := if v.ref then (match lk (Zav v.l).1 with
      | some x => some (Zal x)
      | none => if (Zav v.l).2.2 then Zfr lk (Zav v.l).2.1 else none)
    else ZmU (some (1 + v.tok.t.length + v.tok.u.length)) (Zfr lk v.l)
theorem Zo5 {lk : Lk} {v : Val} (h : v.ref = false) : ZwT lk v = ZmU (some (1 + v.tok.t.length + v.tok.u.length)) (Zfr lk v.l) := by
  unfold ZwT; rw [if_neg (by rw [h]; decide)]
theorem Zxc {lk : Lk} {v : Val} {x : List Val} (h : v.ref = true) (h2 : lk (Zav v.l).1 = some x) : ZwT lk v = some (Zal x) := by
  unfold ZwT; rw [if_pos h, h2]
theorem Zsv {lk : Lk} {v : Val} (h : v.ref = true) (h2 : lk (Zav v.l).1 = none) (h3 : (Zav v.l).2.2 = true) : ZwT lk v = Zfr lk (Zav v.l).2.1 := by
  unfold ZwT; rw [if_pos h, h2]; simp only [h3, if_true]
theorem ZsL {lk : Lk} {v : Val} (h : v.ref = true) (h2 : lk (Zav v.l).1 = none) (h3 : (Zav v.l).2.2 = false) : ZwT lk v = none := by
  unfold ZwT; rw [if_pos h, h2]; simp [h3]
theorem Zda (lk : Lk) : Zfr lk [] = some 0 := by rw [Zfr]
theorem ZeI (lk : Lk) (v : Val) (r : List Val) : Zfr lk (v :: r) = ZmU (ZwT lk v) (Zfr lk r) := by rw [Zfr]; rfl
theorem ZzE (a b c : Option Nat) : ZmU (ZmU a b) c = ZmU a (ZmU b c) := by
  cases a <;> cases b <;> cases c <;> simp [ZmU, Nat.add_assoc]
theorem YbK (a : Option Nat) : ZmU (some 0) a = a := by cases a <;> simp [ZmU]
theorem Zzm (a : Option Nat) : ZmU a (some 0) = a := by cases a <;> simp [ZmU]
theorem ZjN (lk : Lk) (a b : List Val) : Zfr lk (a ++ b) = ZmU (Zfr lk a) (Zfr lk b) := by
  induction a with
  | nil => rw [Zda, YbK]; rfl
  | cons v a ih => rw [List.cons_append, ZeI, ZeI, ih, ZzE]
theorem Zul (lk : Lk) (a : List Val) (v : Val) : Zfr lk (a ++ [v]) = ZmU (Zfr lk a) (ZwT lk v) := by
  rw [ZjN, ZeI, Zda, Zzm]
def ZeQ (lk : Lk) : List Val → List Val
  | [] => []
  | v :: r => (if v.ref then (match lk (Zav v.l).1 with
      | some x => x
      | none => ZeQ lk (Zav v.l).2.1)
    else [Val.mk v.tok (ZeQ lk v.l)]) ++ ZeQ lk r
termination_by l => Zal l
decreasing_by
  · exact Zoq v r
  · exact ZxM v r
  · exact ZwK v r
def ZyX (lk : Lk) (v : Val) : List Val := if v.ref then (match lk (Zav v.l).1 with
      | some x => x
      | none => ZeQ lk (Zav v.l).2.1)
    else [Val.mk v.tok (ZeQ lk v.l)]
theorem ZrD {lk : Lk} {v : Val} (h : v.ref = false) : ZyX lk v = [Val.mk v.tok (ZeQ lk v.l)] := by
  unfold ZyX; rw [if_neg (by rw [h]; decide)]
theorem Zyd {lk : Lk} {v : Val} {x : List Val} (h : v.ref = true) (h2 : lk (Zav v.l).1 = some x) : ZyX lk v = x := by
  unfold ZyX; rw [if_pos h, h2]
theorem Zxp {lk : Lk} {v : Val} (h : v.ref = true) (h2 : lk (Zav v.l).1 = none) : ZyX lk v = ZeQ lk (Zav v.l).2.1 := by
  unfold ZyX; rw [if_pos h, h2]
theorem ZfM (lk : Lk) : ZeQ lk [] = [] := by rw [ZeQ]
theorem Zfn (lk : Lk) (v : Val) (r : List Val) : ZeQ lk (v :: r) = ZyX lk v ++ ZeQ lk r := by rw [ZeQ]; rfl
theorem Zwi (lk : Lk) (a b : List Val) : ZeQ lk (a ++ b) = ZeQ lk a ++ ZeQ lk b := by
  induction a with
  | nil => rw [ZfM]; rfl
  | cons v a ih => rw [List.cons_append, Zfn, Zfn, ih, List.append_assoc]
theorem Zok (lk : Lk) (a : List Val) (v : Val) : ZeQ lk (a ++ [v]) = ZeQ lk a ++ ZyX lk v := by
  rw [Zwi, Zfn, ZfM, List.append_nil]
theorem ZiI (P : List Val → Prop) (h0 : P []) (h1 : ∀ v r, P r → P v.l → P (Zav v.l).2.1 → P (v :: r)) : ∀ l, P l := by
  have : ∀ (n : Nat) l, Zal l < n → P l := by
    intro n
    induction n with
    | zero => intro l h; omega
    | succ n ih =>
      intro l h
      cases l with
      | nil => exact h0
      | cons v r =>
        have a1 := ZwK v r
        have a2 := ZxM v r
        have a3 := Zoq v r
        exact h1 v r (ih _ (by omega)) (ih _ (by omega)) (ih _ (by omega))
  exact fun l => this _ l (Nat.lt_succ_self _)
theorem Ybv (lk : Lk) : ∀ l m, Zfr lk l = some m → Zal (ZeQ lk l) = m := by
  refine ZiI _ ?_ ?_
  · intro m h
    rw [Zda] at h
    cases h
    rw [ZfM]; rfl
  · intro v r h1 h2 h3 m h
    rw [ZeI] at h
    obtain ⟨x, y, hx, hy, rfl⟩ := Zgj h
    rw [Zfn, Zgi, h1 y hy]
    congr 1
    unfold ZwT at hx
    unfold ZyX
    split at hx
    · rename_i hv
      rw [if_pos hv]
      split at hx
      · rename_i z hz
        exact Option.some.inj hx
      · rename_i hz
        split at hx
        · exact h3 x hx
        · cases hx
    · rename_i hv
      rw [if_neg hv]
      obtain ⟨a, b, ha, hb, rfl⟩ := Zgj hx
      cases ha
      simp only [Zal, Val.tot, h2 b hb]
      rfl
theorem YiD (lk : Lk) (W : Nat) (hW : 1 ≤ W) (hlk : ∀ n x, lk n = some x → Zal x ≤ W) : ∀ l m, Zfr lk l = some m → m ≤ Zal l * W := by
  refine ZiI _ ?_ ?_
  · intro m h
    rw [Zda] at h
    cases h
    omega
  · intro v r h1 h2 h3 m h
    rw [ZeI] at h
    obtain ⟨x, y, hx, hy, rfl⟩ := Zgj h
    have hr := h1 y hy
    simp only [Zal, Nat.add_mul]
    suffices x ≤ v.tot * W by omega
    have ht : 1 * W ≤ v.tot * W := Nat.mul_le_mul_right _ (by rw [Val.tot_eq]; omega)
    unfold ZwT at hx
    split at hx
    · split at hx
      · rename_i z hz
        have := hlk _ _ hz
        cases hx
        omega
      · split at hx
        · have h4 := h3 x hx
          have h5 : Zal (Zav v.l).2.1 * W ≤ v.tot * W := Nat.mul_le_mul_right _ (by have := Ziz v.l; rw [Val.tot_eq]; omega)
          omega
        · cases hx
    · obtain ⟨a, b, ha, hb, rfl⟩ := Zgj hx
      cases ha
      have h4 := h2 b hb
      rw [Val.tot_eq, Nat.add_mul (1 + v.tok.t.length + v.tok.u.length)]
      have h5 : (1 + v.tok.t.length + v.tok.u.length) * 1 ≤ (1 + v.tok.t.length + v.tok.u.length) * W := Nat.mul_le_mul_left _ hW
      omega
theorem YeZ (lk : Lk) : ∀ l, Zbg l = false → ZeQ lk l = l := by
  refine ZiI _ ?_ ?_
  · intro h; exact ZfM lk
  · intro v r h1 h2 h3 h
    rw [Zbg, Bool.or_eq_false_iff, Val.hasv_eq, Bool.or_eq_false_iff] at h
    rw [Zfn, h1 h.2, ZyX, if_neg (by rw [h.1.1]; decide), h2 h.1.2, Val.eta]
    rfl
theorem Zyj (lk : Lk) : ∀ l, Zbg l = false → Zfr lk l = some (Zal l) := by
  refine ZiI _ ?_ ?_
  · intro h; exact Zda lk
  · intro v r h1 h2 h3 h
    rw [Zbg, Bool.or_eq_false_iff, Val.hasv_eq, Bool.or_eq_false_iff] at h
    rw [ZeI, h1 h.2, ZwT, if_neg (by rw [h.1.1]; decide), h2 h.1.2]
    simp only [ZmU, Zal, Val.tot_eq]
def lkM (m : List (List UInt8 × List Val)) : Lk := fun n => Zbd BEq.beq n m
def lkC : List Cus → Lk
  | [], _ => none
  | c :: r, n => if c.name == n then some c.val else lkC r n
def Zfx : List Cus → List UInt8 → Int → Int
  | [], _, _ => -1
  | c :: r, n, i => if c.name == n then i else Zfx r n (i + 1)
theorem YbE {m : List (List UInt8 × List Val)} {n : List UInt8} {x : List Val} (h : lkM m n = some x) : ∃ p ∈ m, p.2 = x := by
  induction m with
  | nil => cases h
  | cons p m ih =>
    obtain ⟨k, v⟩ := p
    simp only [lkM, Zbd] at h
    cases e : (n == k) <;> rw [e] at h
    · obtain ⟨q, hq, hx⟩ := ih h
      exact ⟨q, List.mem_cons_of_mem _ hq, hx⟩
    · cases h
      exact ⟨_, List.mem_cons_self, rfl⟩
theorem Yar {c : List Cus} {n : List UInt8} {x : List Val} (h : lkC c n = some x) : ∃ p ∈ c, p.val = x := by
  induction c with
  | nil => cases h
  | cons p m ih =>
    simp only [lkC] at h
    split at h
    · cases h; exact ⟨_, List.mem_cons_self, rfl⟩
    · obtain ⟨q, hq, hx⟩ := ih h
      exact ⟨q, List.mem_cons_of_mem _ hq, hx⟩
theorem Zq9 (c : List Cus) (n : List UInt8) : ∀ (i : Nat), (Zfx c n i = -1 ∧ lkC c n = none) ∨ (∃ j x, Zfx c n i = ((i + j : Nat) : Int) ∧ c[j]? = some x ∧ lkC c n = some x.val) := by
  induction c with
  | nil => intro i; exact .inl ⟨rfl, rfl⟩
  | cons p c ih =>
    intro i
    simp only [Zfx, lkC]
    by_cases h : (p.name == n) = true
    · rw [if_pos h, if_pos h]
      exact .inr ⟨0, p, rfl, rfl, rfl⟩
    · rw [if_neg h, if_neg h]
      rcases ih (i + 1) with ⟨h1, h2⟩ | ⟨j, x, h1, h2, h3⟩
      · exact .inl ⟨h1, h2⟩
      · refine .inr ⟨j + 1, x, ?_, h2, h3⟩
        have : (i : Int) + 1 = ((i + 1 : Nat) : Int) := rfl
        rw [this, h1]
        omega
end Go.Tev
namespace Go.Tev
open Go.Abs
section
variable {x : Cx} {ρ : List Rf} {h0 : Base} {s : TSt x.X} {a : St}
def LawP (x : Cx) (h0 : Base) (call : Zaa) (fa : FA) (n m : Nat) (c : Code) {R : Type} (L : YgO x.U R) : Prop := ∀ (k : TOut x.X → Option R) (s : TSt x.X) (z : R), s.tmp = [] → L k s = some z → ∀ e0 ρ a, (∀ t, (Zae s.env t).isSome = true → (Zae e0 t).isSome = true) → Rel x.U ρ h0 s a →
  ∃ o' o σ, k o' = some z ∧ iter (evQ x.C call fa n c) e0 m a = some o ∧ TORel x σ h0 o' o
end
section
variable {C : Ctx} {call : Zaa} {fa : FA}
theorem Zpg {f : St → Option Out} {e0 : List (Nat × SV)} : ∀ (m : Nat) (st : St) (o : Out), iter f e0 m st = some o → iter f e0 (m + 1) st = some o
  | 0, st, o, h => by cases h
  | m + 1, st, o, h => by
    rw [iter] at h ⊢
    split at h
    · exact Zpg m _ o h
    · exact h
theorem Zxd (n : Nat) : ∀ (c : Code) (st : St) (o : Out), evQ C call fa n c st = some o → evQ C call fa (n + 1) c st = some o := by
  intro c
  induction c with
  | seq p q ihp ihq =>
    intro st o h
    simp only [evQ] at h ⊢
    split at h
    · rename_i st' hs
      rw [ihp _ _ hs]
      exact ihq _ _ h
    · rename_i r hn
      rw [ihp _ _ h]
      split
      · rename_i st' hs
        cases hs
        exact absurd h (hn st')
      · rfl
  | cond c p q ihp ihq =>
    intro st o h
    simp only [evQ] at h ⊢
    split at h
    · rename_i t ht
      cases t with
      | true => exact ihp _ _ h
      | false => exact ihq _ _ h
    · cases h
  | block i c ih =>
    intro st o h
    simp only [evQ] at h ⊢
    cases hq : evQ C call fa n c st with
    | none => rw [hq] at h; cases h
    | some o1 =>
      rw [hq] at h
      rw [ih _ _ hq]
      exact h
  | loop c ih =>
    intro st o h
    simp only [evQ] at h ⊢
    exact Zpg _ _ _ (Zkh (fun st o hh => ih st o hh) _ _ _ h)
  | _ => intro st o h; exact h
end
section
variable {x : Cx} {h0 : Base}
theorem LawP.succ {call : Zaa} {fa : FA} {n m : Nat} {c : Code} {R : Type} {L : YgO x.U R} (h : LawP x h0 call fa n m c L) : LawP x h0 call fa (n + 1) m c L := fun k s z ht hz e0 ρ a hc r => by
  obtain ⟨o', o, σ, h1, h2, h3⟩ := h k s z ht hz e0 ρ a hc r
  exact ⟨o', o, σ, h1, Zkh (fun st o hh => Zxd n c st o hh) _ _ _ h2, h3⟩
theorem Law.succ {call : Zaa} {fa : FA} {n : Nat} {c : Code} {R : Type} {L : YgO x.U R} (h : Law x h0 call fa n c L) : Law x h0 call fa (n + 1) c L := fun k s z ht hz ρ a r => by
  obtain ⟨o', o, σ, h1, h2, h3⟩ := h k s z ht hz ρ a r
  exact ⟨o', o, σ, h1, Zpg _ _ _ (Zkh (fun st o hh => Zxd n c st o hh) _ _ _ h2), h3⟩
end
end Go.Tev
namespace Go.Tev.S1
open Go.Abs Go.Proofs
abbrev T3a : Type := Val → Option Bool
abbrev T3b : Type := Val → Option ((List UInt8) × (List Val) × Bool)
abbrev T3c : Type := (List Val) → ((List ((List UInt8) × Bool)) × Unit) → Option ((Unit) × ((List ((List UInt8) × Bool)) × Unit))
abbrev T3d : Type := List ((List UInt8) × Bool)
abbrev T3e : Type := (List Val) → Option (List (List UInt8))
abbrev T3f : Type := (List Val) → Option Int
abbrev T3h : Type := (List Val) × (List ((List UInt8) × (List Val))) → Option Int
abbrev T3i : Type := (List Val) × (List Cus) → Option (Int × Bool)
abbrev T3j : Type := (List Cus) × (List UInt8) → Option Int
abbrev T3k : Type := (List Val) × (List ((List UInt8) × (List Val))) → Option (List Val)
abbrev T3l : Type := (List Val) × (List Cus) → Option (List Val)
abbrev T3m : Type := (List Val) → Option (List Val)
abbrev T3n : Type := (List Val) → Option Bool
abbrev P3a (K : Zaa) (t : T3a) : Prop := Zag U (Zac C K) 55 ⟨true, [.ty 60], [4], t⟩
abbrev P3b (K : Zaa) (t : T3b) : Prop := Zag U (Zac C K) 56 ⟨true, [.ty 60], [9, 33, 4], t⟩
abbrev P3c (K : Zaa) (t : T3a) : Prop := Zag U (Zac C K) 60 ⟨true, [.ty 60], [4], t⟩
abbrev P3d (K : Zaa) (t : T3b) : Prop := Zag U (Zac C K) 61 ⟨true, [.ty 60], [9, 33, 4], t⟩
abbrev P3e (K : Zaa) (t : T3e) : Prop := Zag U (Zac C K) 38 ⟨true, [.ty 33], [40], t⟩
abbrev P3f (K : Zaa) (t : T3f) : Prop := Zag U (Zac C K) 27 ⟨true, [.ty 33], [3], t⟩
abbrev P3h (K : Zaa) (t : T3h) : Prop := Zag U (Zac C K) 62 ⟨true, [.ty 33, .ty 70], [3], t⟩
abbrev P3i (K : Zaa) (t : T3f) : Prop := Zag U (Zac C K) 30 ⟨true, [.ty 33], [3], t⟩
abbrev P3j (K : Zaa) (t : T3i) : Prop := Zag U (Zac C K) 64 ⟨true, [.ty 33, .ty 22], [3, 4], t⟩
abbrev P3k (K : Zaa) (t : T3j) : Prop := Zag U (Zac C K) 69 ⟨true, [.ty 22, .ty 9], [3], t⟩
abbrev P3l (K : Zaa) (t : T3f) : Prop := Zag U (Zac C K) 32 ⟨true, [.ty 33], [3], t⟩
abbrev P3m (K : Zaa) (t : T3k) : Prop := Zag U (Zac C K) 63 ⟨true, [.ty 33, .ty 70], [33], t⟩
abbrev P3n (K : Zaa) (t : T3l) : Prop := Zag U (Zac C K) 65 ⟨true, [.ty 33, .ty 22], [33], t⟩
abbrev P3o (K : Zaa) (t : T3m) : Prop := Zag U (Zac C K) 13 ⟨true, [.ty 33], [33], t⟩
abbrev P3p (K : Zaa) (t : T3n) : Prop := Zag U (Zac C K) 29 ⟨true, [.ty 33], [4], t⟩
abbrev P3q (K : Zaa) (t : T3f) : Prop := Zag U (Zac C K) 24 ⟨true, [.ty 33], [25], t⟩
abbrev P3r (K : Zaa) (t : T3n) : Prop := Zag U (Zac C K) 31 ⟨true, [.ty 33], [4], t⟩
def ZeB (qa : T3a) (qb : T3b) (qc : T3c) {R : Type} (n : Nat) (_ : Unit) (a9 : List Val) (a10 : Int) (kx0 : (List ((List UInt8) × Bool)) → Option R) (y11 : Int) (h1 : List ((List UInt8) × Bool)) (k : Int → (List ((List UInt8) × Bool)) → Option R) : Option R :=
  cond (decide (y11 < a10))
  (Option.bind (Zbt a9 y11) fun x2 =>
  Option.bind (qa (Val.mk x2.tok x2.l)) fun r3 =>
  Option.bind (cond r3 (qb (Val.mk x2.tok x2.l)) (some ([], [], false))) fun r4 =>
  Option.bind (some (cond (r4.1 != []) x2.tok.k x2.tok.k)) fun m5 =>
  Option.bind (some (cond (r4.1 != []) x2.tok.t x2.tok.t)) fun m6 =>
  Option.bind (some (cond (r4.1 != []) x2.tok.n x2.tok.n)) fun m7 =>
  Option.bind (some (cond (r4.1 != []) x2.tok.u x2.tok.u)) fun m8 =>
  Option.bind (some (cond (r4.1 != []) x2.tok.f x2.tok.f)) fun m9 =>
  Option.bind (some (cond (r4.1 != []) x2.l x2.l)) fun m10 =>
  Option.bind (some (cond (r4.1 != []) (ZzV BEq.beq r4.1 true h1) h1)) fun m11 =>
  Option.bind (some (cond r3 m5 x2.tok.k)) fun m12 =>
  Option.bind (some (cond r3 m6 x2.tok.t)) fun m13 =>
  Option.bind (some (cond r3 m7 x2.tok.n)) fun m14 =>
  Option.bind (some (cond r3 m8 x2.tok.u)) fun m15 =>
  Option.bind (some (cond r3 m9 x2.tok.f)) fun m16 =>
  Option.bind (some (cond r3 m10 x2.l)) fun m17 =>
  Option.bind (some (cond r3 m11 h1)) fun m18 =>
  Option.bind (qc m17 (m18, ())) fun w19 =>
  k (IntKind.i64.wrap (y11 + (1 : Int))) w19.2.1)
  (kx0 h1)
def ZgC (qa : T3a) (qb : T3b) (qc : T3c) (n : Nat) (p0 : List Val) (q1 : T3d) : Option ((Unit) × ((List ((List UInt8) × Bool)) × Unit)) :=
  ZcS (ZeB qa qb qc n () p0 (p0.length : Int) (fun z1 =>
  some ((), (z1, ())))) n (0 : Int) q1
abbrev ZpS (qa : T3a) (qb : T3b) (qc : T3c) : List (Nat × TCall X) := [(55, ⟨true, [.ty 60], [4], qa⟩), (56, ⟨true, [.ty 60], [9, 33, 4], qb⟩)]
noncomputable abbrev Zb4 (qa : T3a) (qb : T3b) (qc : T3c) : Cx := ⟨C, U, ZpS qa qb qc, [(34, ⟨[.ty 33, .ref (.map 9 4)], [], qc⟩)], fun _ => []⟩
theorem Zor : okF (C.ann 34) Try.f34 2 = true := by kernel_rfl
abbrev vars_collect_L0_D : LD := ⟨1, [.mp 1 0, .val 9 33, .val 10 2], [.val 11 2, .hmap 9 4], [(0, [.hmap 9 4])], []⟩
abbrev Zdr (qa : T3a) (qb : T3b) (qc : T3c) (n : Nat) : LG U (PX X [] × PR' X (AR.refs [.ty 33, .ref (.map 9 4)])) vars_collect_L0_D := fun c kx kr y k => ZeB qa qb qc n c.1 c.2.1 c.2.2.1 (fun z0 => kx 0 (z0, ())) y.1 y.2.1 (fun z0 z1 => k (z0, z1, ()))
noncomputable abbrev Zds (qa : T3a) (qb : T3b) (qc : T3c) (n : Nat) : ZdW (Zb4 qa qb qc) (PX X [] × PR' X (AR.refs [.ty 33, .ref (.map 9 4)])) := [(0, Zca U vars_collect_L0_D (Zdr qa qb qc n) n)]
theorem Zmc (qa : T3a) (qb : T3b) (qc : T3c) (n : Nat) : ∀ c kx kr y k1, evL (Zb4 qa qb qc) (ann 34) (Zds qa qb qc n) 0 (Zaf (Zab Try.f34) 0) (ZbY U vars_collect_L0_D kx kr k1) (encS U vars_collect_L0_D.cap vars_collect_L0_D.din c y) = Zdr qa qb qc n c (fun i z => kx i c z) kr y (fun y2 => k1 c y2) := by
  intro c kx kr y k1
  kernel_rfl
theorem Zqp (qa : T3a) (qb : T3b) (qc : T3c) (n : Nat) : ∀ a cs, fnR (Zb4 qa qb qc) 34 Try.f34 [.ty 33, .ref (.map 9 4)] [] (Zds qa qb qc n) a cs = ZgC qa qb qc n a cs.1 := by
  intro a cs
  kernel_rfl
theorem Zie {K : Zaa} (qa : T3a) (qb : T3b) (qc : T3c) (h0 : P3a K qa) (h1 : P3b K qb) (g0 : Zft U (Zac C K) 34 ⟨[.ty 33, .ref (.map 9 4)], [], qc⟩) : CallsOk (Zb4 qa qb qc) (Zac C K) :=
  ⟨(Zad h0 (Zad h1 Zap)), (Ya3 g0 Zao)⟩
theorem ZjY {K : Zaa} (qa : T3a) (qb : T3b) (qc : T3c) (h0 : P3a K qa) (h1 : P3b K qb) (g0 : Zft U (Zac C K) 34 ⟨[.ty 33, .ref (.map 9 4)], [], qc⟩) (n : Nat) (b0 : Base) (bn0 : b0.nr ≤ 1) : Law (Zb4 qa qb qc) b0 (Zac C K) (ann 34) n (Zaf (Zab Try.f34) 0) (Zca U vars_collect_L0_D (Zdr qa qb qc n) n) :=
  Za6 (x := Zb4 qa qb qc) (id := 0) ok (Zie qa qb qc h0 h1 g0) (sums := Zds qa qb qc n) (Zaj (show Zam 0 (Zaf (Zab Try.f34) 0) = [] by kernel_rfl)) vars_collect_L0_D bn0 (Zdr qa qb qc n) (Zmc qa qb qc n)
theorem ZlB {K : Zaa} (hK : ∀ args h, K 34 args h = none) (qa : T3a) (qb : T3b) (qc : T3c) (h0 : P3a K qa) (h1 : P3b K qb) (g0 : Zft U (Zac C K) 34 ⟨[.ty 33, .ref (.map 9 4)], [], qc⟩) (t : PX X (AR.tys [.ty 33, .ref (.map 9 4)]) → PR' X (AR.refs [.ty 33, .ref (.map 9 4)]) → Option (PX X [] × PR' X (AR.refs [.ty 33, .ref (.map 9 4)]))) (h : ∀ a cs r, t a cs = some r → ∃ n, ZgC qa qb qc n a cs.1 = some r) : Zft U (Zac C K) 34 ⟨[.ty 33, .ref (.map 9 4)], [], t⟩ := by
  refine YbG (x := Zb4 qa qb qc) (ak := [.ty 33, .ref (.map 9 4)]) (rts := []) ok (Zie qa qb qc h0 h1 g0) hK Try.func34 Zor fun a cs r hr => ?_
  obtain ⟨n, hn⟩ := h a cs r hr
  exact ⟨n, Zds qa qb qc n, fun b0 bn0 => (ZaB (ids := [0]) (by kernel_rfl) (by decide) (fun i hi => by
    simp only [List.mem_cons, List.not_mem_nil, or_false] at hi
    rcases hi with rfl
    · exact Zay (c2 := Zaf (Zab Try.f34) 0) (by kernel_rfl) (by kernel_rfl) (ZjY qa qb qc h0 h1 g0 _ b0 bn0)
    )), (Zqp qa qb qc n a cs).trans hn⟩
def ZfP (qd : T3a) (qe : T3b) (qf : T3e) {R : Type} (n : Nat) (a0 : List Val) (a2 : List (List UInt8)) (kx0 : List (List UInt8) → Option R) (y3 : List (List UInt8)) (y4 : Int) (k : List (List UInt8) → Int → Option R) : Option R :=
  cond (decide (y4 < (a0.length : Int)))
  (Option.bind (Zbt a0 y4) fun x2 =>
  Option.bind (qd (Val.mk x2.tok x2.l)) fun r3 =>
  Option.bind (cond r3 (Zbt a0 y4) (some ZsA)) fun x4 =>
  Option.bind (cond r3 (qe (Val.mk x4.tok x4.l)) (some ([], [], false))) fun r5 =>
  Option.bind (cond (r3 && (r5.1 != [])) (Option.bind (room 16 (y3.length + [r5.1].length)) (fun _ => some (y3 ++ [r5.1]))) (some y3)) fun o6 =>
  Option.bind (some (cond (r5.1 != []) o6 y3)) fun m7 =>
  Option.bind (some (cond r3 m7 y3)) fun m8 =>
  Option.bind (Zbt a0 y4) fun x9 =>
  Option.bind (qf x9.l) fun r10 =>
  Option.bind (Option.bind (room 16 (m8.length + r10.length)) (fun _ => some (m8 ++ r10))) fun o11 =>
  k o11 (IntKind.i64.wrap (y4 + (1 : Int))))
  (kx0 y3)
def Zjc (qd : T3a) (qe : T3b) (qf : T3e) (n : Nat) (p0 : List Val) : Option (List (List UInt8)) :=
  ZcS (ZfP qd qe qf n p0 [] (fun z1 =>
  some z1)) n [] (0 : Int)
abbrev Zuv (qd : T3a) (qe : T3b) (qf : T3e) : List (Nat × TCall X) := [(60, ⟨true, [.ty 60], [4], qd⟩), (61, ⟨true, [.ty 60], [9, 33, 4], qe⟩), (38, ⟨true, [.ty 33], [40], qf⟩)]
noncomputable abbrev ZcM (qd : T3a) (qe : T3b) (qf : T3e) : Cx := ⟨C, U, Zuv qd qe qf, [], fun _ => []⟩
theorem Zru : okF (C.ann 38) Try.f38 1 = true := by kernel_rfl
abbrev ref30_uses_L0_D : LD := ⟨0, [.val 0 33, .val 2 40], [.own 3 9, .val 4 2], [(0, [.own 3 9])], []⟩
abbrev ZeH (qd : T3a) (qe : T3b) (qf : T3e) (n : Nat) : LG U (PX X [40]) ref30_uses_L0_D := fun c kx kr y k => ZfP qd qe qf n c.1 c.2.1 (fun z0 => kx 0 (z0, ())) y.1 y.2.1 (fun z0 z1 => k (z0, z1, ()))
noncomputable abbrev Zeo (qd : T3a) (qe : T3b) (qf : T3e) (n : Nat) : ZdW (ZcM qd qe qf) (PX X [40]) := [(0, Zca U ref30_uses_L0_D (ZeH qd qe qf n) n)]
theorem Zpw (qd : T3a) (qe : T3b) (qf : T3e) (n : Nat) : ∀ c kx kr y k1, evL (ZcM qd qe qf) (ann 38) (Zeo qd qe qf n) 0 (Zaf (Zab Try.f38) 0) (ZbY U ref30_uses_L0_D kx kr k1) (encS U ref30_uses_L0_D.cap ref30_uses_L0_D.din c y) = ZeH qd qe qf n c (fun i z => kx i c z) kr y (fun y2 => k1 c y2) := by
  intro c kx kr y k1
  kernel_rfl
theorem Zvl (qd : T3a) (qe : T3b) (qf : T3e) (n : Nat) : ∀ a, fnL (ZcM qd qe qf) true 38 Try.f38 [.ty 33] [40] (Zeo qd qe qf n) a = Zjc qd qe qf n a := by
  intro a
  kernel_rfl
theorem Zkx {K : Zaa} (qd : T3a) (qe : T3b) (qf : T3e) (h0 : P3c K qd) (h1 : P3d K qe) (h2 : P3e K qf) : CallsOk (ZcM qd qe qf) (Zac C K) :=
  ⟨(Zad h0 (Zad h1 (Zad h2 Zap))), Zao⟩
theorem ZmF {K : Zaa} (qd : T3a) (qe : T3b) (qf : T3e) (h0 : P3c K qd) (h1 : P3d K qe) (h2 : P3e K qf) (n : Nat) (b0 : Base) (bn0 : b0.nr ≤ 0) : Law (ZcM qd qe qf) b0 (Zac C K) (ann 38) n (Zaf (Zab Try.f38) 0) (Zca U ref30_uses_L0_D (ZeH qd qe qf n) n) :=
  Za6 (x := ZcM qd qe qf) (id := 0) ok (Zkx qd qe qf h0 h1 h2) (sums := Zeo qd qe qf n) (Zaj (show Zam 0 (Zaf (Zab Try.f38) 0) = [] by kernel_rfl)) ref30_uses_L0_D bn0 (ZeH qd qe qf n) (Zpw qd qe qf n)
theorem Znk {K : Zaa} (hK : ∀ args h, K 38 args h = none) (qd : T3a) (qe : T3b) (qf : T3e) (h0 : P3c K qd) (h1 : P3d K qe) (h2 : P3e K qf) (t : PX X (AK.tys [.ty 33]) → Option (PX X [40])) (h : ∀ a r, t a = some r → ∃ n, Zjc qd qe qf n a = some r) : Zag U (Zac C K) 38 ⟨true, [.ty 33], [40], t⟩ := by
  refine Zan (x := ZcM qd qe qf) (ak := [.ty 33]) (rts := [40]) (dir := true) ok (Zkx qd qe qf h0 h1 h2) hK Try.func38 Zru fun a r hr => ?_
  obtain ⟨n, hn⟩ := h a r hr
  exact ⟨n, Zeo qd qe qf n, (ZaB (ids := [0]) (by kernel_rfl) (by decide) (fun i hi => by
    simp only [List.mem_cons, List.not_mem_nil, or_false] at hi
    rcases hi with rfl
    · exact Zay (c2 := Zaf (Zab Try.f38) 0) (by kernel_rfl) (by kernel_rfl) (ZmF qd qe qf h0 h1 h2 _ _ (Nat.le_refl _))
    )), (Zvl qd qe qf n a).trans hn⟩
def Zey (qa : T3a) (qi : T3h) (qb : T3b) (qj : T3f) {R : Type} (n : Nat) (a1 : List ((List UInt8) × (List Val))) (a14 : List Val) (a15 : Int) (kx0 : Int → Int → Option R) (kr : Int → Option R) (y4 : Int) (y5 : Int) (y16 : Int) (k : Int → Int → Int → Option R) : Option R :=
  cond (decide (y16 < a15))
  (Option.bind (Zbt a14 y16) fun x4 =>
  Option.bind (qa (Val.mk x4.tok x4.l)) fun r5 =>
  Option.bind (cond (!r5) (qi (x4.l, a1)) (some (0 : Int))) fun r6 =>
  Option.bind (cond (!(!r5)) (qb (Val.mk x4.tok x4.l)) (some ([], [], false))) fun r7 =>
  Option.bind (cond ((!(!r5)) && ((Zbd BEq.beq r7.1 a1).isSome)) (qj (ZnN [] (Zbd BEq.beq r7.1 a1))) (some (0 : Int))) fun r8 =>
  Option.bind (cond (((!(!r5)) && (!((Zbd BEq.beq r7.1 a1).isSome))) && r7.2.2) (qi (r7.2.1, a1)) (some (0 : Int))) fun r9 =>
  Option.bind (some (cond r7.2.2 x4.tok.k x4.tok.k)) fun m10 =>
  Option.bind (some (cond r7.2.2 x4.tok.t x4.tok.t)) fun m11 =>
  Option.bind (some (cond r7.2.2 x4.tok.n x4.tok.n)) fun m12 =>
  Option.bind (some (cond r7.2.2 x4.tok.u x4.tok.u)) fun m13 =>
  Option.bind (some (cond r7.2.2 x4.tok.f x4.tok.f)) fun m14 =>
  Option.bind (some (cond r7.2.2 x4.l x4.l)) fun m15 =>
  Option.bind (some (cond r7.2.2 r9 (-1 : Int))) fun m16 =>
  Option.bind (some (cond ((Zbd BEq.beq r7.1 a1).isSome) x4.tok.k m10)) fun m17 =>
  Option.bind (some (cond ((Zbd BEq.beq r7.1 a1).isSome) x4.tok.t m11)) fun m18 =>
  Option.bind (some (cond ((Zbd BEq.beq r7.1 a1).isSome) x4.tok.n m12)) fun m19 =>
  Option.bind (some (cond ((Zbd BEq.beq r7.1 a1).isSome) x4.tok.u m13)) fun m20 =>
  Option.bind (some (cond ((Zbd BEq.beq r7.1 a1).isSome) x4.tok.f m14)) fun m21 =>
  Option.bind (some (cond ((Zbd BEq.beq r7.1 a1).isSome) x4.l m15)) fun m22 =>
  Option.bind (some (cond ((Zbd BEq.beq r7.1 a1).isSome) r8 m16)) fun m23 =>
  Option.bind (some (cond (!r5) (IntKind.i64.wrap (y5 + (IntKind.i64.wrap ((IntKind.i64.wrap ((1 : Int) + (x4.tok.t.length : Int))) + (x4.tok.u.length : Int))))) y5)) fun m24 =>
  Option.bind (some (cond (!r5) x4.tok.k m17)) fun m25 =>
  Option.bind (some (cond (!r5) x4.tok.t m18)) fun m26 =>
  Option.bind (some (cond (!r5) x4.tok.n m19)) fun m27 =>
  Option.bind (some (cond (!r5) x4.tok.u m20)) fun m28 =>
  Option.bind (some (cond (!r5) x4.tok.f m21)) fun m29 =>
  Option.bind (some (cond (!r5) x4.l m22)) fun m30 =>
  Option.bind (some (cond (!r5) r6 m23)) fun m31 =>
  cond (decide (m31 < (0 : Int)))
  (kr (-1 : Int))
  (k y4 (IntKind.i64.wrap (m24 + m31)) (IntKind.i64.wrap (y16 + (1 : Int)))))
  (kx0 y4 y5)
def Zgr (qa : T3a) (qi : T3h) (qb : T3b) (qj : T3f) (n : Nat) (p0 : List Val) (p1 : List ((List UInt8) × (List Val))) : Option Int :=
  Zha (Zey qa qi qb qj n p1 p0 (p0.length : Int) (fun z1 z2 =>
  some z2) (fun z3 =>
  some z3)) n (0 : Int) (0 : Int) (0 : Int)
abbrev ZpX (qa : T3a) (qi : T3h) (qb : T3b) (qj : T3f) : List (Nat × TCall X) := [(55, ⟨true, [.ty 60], [4], qa⟩), (62, ⟨true, [.ty 33, .ty 70], [3], qi⟩), (56, ⟨true, [.ty 60], [9, 33, 4], qb⟩), (30, ⟨true, [.ty 33], [3], qj⟩)]
noncomputable abbrev Zb1 (qa : T3a) (qi : T3h) (qb : T3b) (qj : T3f) : Cx := ⟨C, U, ZpX qa qi qb qj, [], fun _ => []⟩
theorem Zoz : okF (C.ann 62) Try.f62 2 = true := by kernel_rfl
abbrev vars_measure_L0_D : LD := ⟨0, [.val 1 70, .val 14 33, .val 15 2], [.val 4 2, .val 5 2, .val 16 2], [(0, [.val 4 2, .val 5 2])], [.val 4 3]⟩
abbrev Zdf (qa : T3a) (qi : T3h) (qb : T3b) (qj : T3f) (n : Nat) : LG U (PX X [3]) vars_measure_L0_D := fun c kx kr y k => Zey qa qi qb qj n c.1 c.2.1 c.2.2.1 (fun z0 z1 => kx 0 (z0, z1, ())) (fun z0 => kr (z0, ())) y.1 y.2.1 y.2.2.1 (fun z0 z1 z2 => k (z0, z1, z2, ()))
noncomputable abbrev Zdp (qa : T3a) (qi : T3h) (qb : T3b) (qj : T3f) (n : Nat) : ZdW (Zb1 qa qi qb qj) (PX X [3]) := [(0, Zca U vars_measure_L0_D (Zdf qa qi qb qj n) n)]
theorem ZlE (qa : T3a) (qi : T3h) (qb : T3b) (qj : T3f) (n : Nat) : ∀ c kx kr y k1, evL (Zb1 qa qi qb qj) (ann 62) (Zdp qa qi qb qj n) 0 (Zaf (Zab Try.f62) 0) (ZbY U vars_measure_L0_D kx kr k1) (encS U vars_measure_L0_D.cap vars_measure_L0_D.din c y) = Zdf qa qi qb qj n c (fun i z => kx i c z) kr y (fun y2 => k1 c y2) := by
  intro c kx kr y k1
  kernel_rfl
theorem ZpZ (qa : T3a) (qi : T3h) (qb : T3b) (qj : T3f) (n : Nat) : ∀ a, fnL (Zb1 qa qi qb qj) true 62 Try.f62 [.ty 33, .ty 70] [3] (Zdp qa qi qb qj n) a = Zgr qa qi qb qj n a.1 a.2 := by
  intro a
  kernel_rfl
theorem Zia {K : Zaa} (qa : T3a) (qi : T3h) (qb : T3b) (qj : T3f) (h0 : P3a K qa) (h1 : P3h K qi) (h2 : P3b K qb) (h3 : P3i K qj) : CallsOk (Zb1 qa qi qb qj) (Zac C K) :=
  ⟨(Zad h0 (Zad h1 (Zad h2 (Zad h3 Zap)))), Zao⟩
theorem Zkb {K : Zaa} (qa : T3a) (qi : T3h) (qb : T3b) (qj : T3f) (h0 : P3a K qa) (h1 : P3h K qi) (h2 : P3b K qb) (h3 : P3i K qj) (n : Nat) (b0 : Base) (bn0 : b0.nr ≤ 0) : Law (Zb1 qa qi qb qj) b0 (Zac C K) (ann 62) n (Zaf (Zab Try.f62) 0) (Zca U vars_measure_L0_D (Zdf qa qi qb qj n) n) :=
  Za6 (x := Zb1 qa qi qb qj) (id := 0) ok (Zia qa qi qb qj h0 h1 h2 h3) (sums := Zdp qa qi qb qj n) (Zaj (show Zam 0 (Zaf (Zab Try.f62) 0) = [] by kernel_rfl)) vars_measure_L0_D bn0 (Zdf qa qi qb qj n) (ZlE qa qi qb qj n)
theorem ZlA {K : Zaa} (hK : ∀ args h, K 62 args h = none) (qa : T3a) (qi : T3h) (qb : T3b) (qj : T3f) (h0 : P3a K qa) (h1 : P3h K qi) (h2 : P3b K qb) (h3 : P3i K qj) (t : PX X (AK.tys [.ty 33, .ty 70]) → Option (PX X [3])) (h : ∀ a r, t a = some r → ∃ n, Zgr qa qi qb qj n a.1 a.2 = some r) : Zag U (Zac C K) 62 ⟨true, [.ty 33, .ty 70], [3], t⟩ := by
  refine Zan (x := Zb1 qa qi qb qj) (ak := [.ty 33, .ty 70]) (rts := [3]) (dir := true) ok (Zia qa qi qb qj h0 h1 h2 h3) hK Try.func62 Zoz fun a r hr => ?_
  obtain ⟨n, hn⟩ := h a r hr
  exact ⟨n, Zdp qa qi qb qj n, (ZaB (ids := [0]) (by kernel_rfl) (by decide) (fun i hi => by
    simp only [List.mem_cons, List.not_mem_nil, or_false] at hi
    rcases hi with rfl
    · exact Zay (c2 := Zaf (Zab Try.f62) 0) (by kernel_rfl) (by kernel_rfl) (Zkb qa qi qb qj h0 h1 h2 h3 _ _ (Nat.le_refl _))
    )), (ZpZ qa qi qb qj n a).trans hn⟩
def Zdq (qd : T3a) (qk : T3i) (qe : T3b) (ql : T3j) (qm : T3f) {R : Type} (n : Nat) (a0 : List Val) (a1 : List Cus) (kx0 : Int → Bool → Int → Option R) (kr : Int → Bool → Option R) (y4 : Int) (y5 : Bool) (y6 : Int) (y7 : Int) (k : Int → Bool → Int → Int → Option R) : Option R :=
  cond (decide (y7 < (a0.length : Int)))
  (Option.bind (Zbt a0 y7) fun x6 =>
  Option.bind (qd (Val.mk x6.tok x6.l)) fun r7 =>
  cond (!r7)
  (Option.bind (Zbt a0 y7) fun x8 =>
  Option.bind (qk (x8.l, a1)) fun r9 =>
  cond (!r9.2)
  (kr (0 : Int) false)
  (Option.bind (Zbt a0 y7) fun x10 =>
  Option.bind (Zbt a0 y7) fun x11 =>
  k y4 y5 (IntKind.i64.wrap (y6 + (IntKind.i64.wrap ((IntKind.i64.wrap ((IntKind.i64.wrap ((1 : Int) + (x10.tok.t.length : Int))) + (x11.tok.u.length : Int))) + r9.1)))) (IntKind.i64.wrap (y7 + (1 : Int)))))
  (Option.bind (Zbt a0 y7) fun x12 =>
  Option.bind (qe (Val.mk x12.tok x12.l)) fun r13 =>
  Option.bind (ql (a1, r13.1)) fun r14 =>
  cond (decide (r14 ≥ (0 : Int)))
  (Option.bind (Zbt a1 r14) fun x15 =>
  Option.bind (qm x15.val) fun r16 =>
  k y4 y5 (IntKind.i64.wrap (y6 + r16)) (IntKind.i64.wrap (y7 + (1 : Int))))
  (cond (!r13.2.2)
  (kr (0 : Int) false)
  (Option.bind (qk (r13.2.1, a1)) fun r17 =>
  cond (!r17.2)
  (kr (0 : Int) false)
  (k y4 y5 (IntKind.i64.wrap (y6 + r17.1)) (IntKind.i64.wrap (y7 + (1 : Int))))))))
  (kx0 y4 y5 y6)
def Zfj (qd : T3a) (qk : T3i) (qe : T3b) (ql : T3j) (qm : T3f) (n : Nat) (p0 : List Val) (p1 : List Cus) : Option (Int × Bool) :=
  Zuu (Zdq qd qk qe ql qm n p0 p1 (fun z1 z2 z3 =>
  some (z3, true)) (fun z4 z5 =>
  some (z4, z5))) n (0 : Int) false (0 : Int) (0 : Int)
abbrev ZnG (qd : T3a) (qk : T3i) (qe : T3b) (ql : T3j) (qm : T3f) : List (Nat × TCall X) := [(60, ⟨true, [.ty 60], [4], qd⟩), (64, ⟨true, [.ty 33, .ty 22], [3, 4], qk⟩), (61, ⟨true, [.ty 60], [9, 33, 4], qe⟩), (69, ⟨true, [.ty 22, .ty 9], [3], ql⟩), (32, ⟨true, [.ty 33], [3], qm⟩)]
noncomputable abbrev Zbp (qd : T3a) (qk : T3i) (qe : T3b) (ql : T3j) (qm : T3f) : Cx := ⟨C, U, ZnG qd qk qe ql qm, [], fun _ => []⟩
theorem ZlK : okF (C.ann 64) Try.f64 2 = true := by kernel_rfl
abbrev ref30_measured_L0_D : LD := ⟨0, [.val 0 33, .val 1 22], [.val 4 2, .val 5 4, .val 6 2, .val 7 2], [(0, [.val 4 2, .val 5 4, .val 6 2])], [.val 4 3, .val 5 4]⟩
abbrev Zck (qd : T3a) (qk : T3i) (qe : T3b) (ql : T3j) (qm : T3f) (n : Nat) : LG U (PX X [3, 4]) ref30_measured_L0_D := fun c kx kr y k => Zdq qd qk qe ql qm n c.1 c.2.1 (fun z0 z1 z2 => kx 0 (z0, z1, z2, ())) (fun z0 z1 => kr (z0, z1, ())) y.1 y.2.1 y.2.2.1 y.2.2.2.1 (fun z0 z1 z2 z3 => k (z0, z1, z2, z3, ()))
noncomputable abbrev Zcw (qd : T3a) (qk : T3i) (qe : T3b) (ql : T3j) (qm : T3f) (n : Nat) : ZdW (Zbp qd qk qe ql qm) (PX X [3, 4]) := [(0, Zca U ref30_measured_L0_D (Zck qd qk qe ql qm n) n)]
theorem ZjP (qd : T3a) (qk : T3i) (qe : T3b) (ql : T3j) (qm : T3f) (n : Nat) : ∀ c kx kr y k1, evL (Zbp qd qk qe ql qm) (ann 64) (Zcw qd qk qe ql qm n) 0 (Zaf (Zab Try.f64) 0) (ZbY U ref30_measured_L0_D kx kr k1) (encS U ref30_measured_L0_D.cap ref30_measured_L0_D.din c y) = Zck qd qk qe ql qm n c (fun i z => kx i c z) kr y (fun y2 => k1 c y2) := by
  intro c kx kr y k1
  kernel_rfl
theorem ZnH (qd : T3a) (qk : T3i) (qe : T3b) (ql : T3j) (qm : T3f) (n : Nat) : ∀ a, fnL (Zbp qd qk qe ql qm) true 64 Try.f64 [.ty 33, .ty 22] [3, 4] (Zcw qd qk qe ql qm n) a = Zfj qd qk qe ql qm n a.1 a.2 := by
  intro a
  kernel_rfl
theorem Zg0 {K : Zaa} (qd : T3a) (qk : T3i) (qe : T3b) (ql : T3j) (qm : T3f) (h0 : P3c K qd) (h1 : P3j K qk) (h2 : P3d K qe) (h3 : P3k K ql) (h4 : P3l K qm) : CallsOk (Zbp qd qk qe ql qm) (Zac C K) :=
  ⟨(Zad h0 (Zad h1 (Zad h2 (Zad h3 (Zad h4 Zap))))), Zao⟩
theorem Ziy {K : Zaa} (qd : T3a) (qk : T3i) (qe : T3b) (ql : T3j) (qm : T3f) (h0 : P3c K qd) (h1 : P3j K qk) (h2 : P3d K qe) (h3 : P3k K ql) (h4 : P3l K qm) (n : Nat) (b0 : Base) (bn0 : b0.nr ≤ 0) : Law (Zbp qd qk qe ql qm) b0 (Zac C K) (ann 64) n (Zaf (Zab Try.f64) 0) (Zca U ref30_measured_L0_D (Zck qd qk qe ql qm n) n) :=
  Za6 (x := Zbp qd qk qe ql qm) (id := 0) ok (Zg0 qd qk qe ql qm h0 h1 h2 h3 h4) (sums := Zcw qd qk qe ql qm n) (Zaj (show Zam 0 (Zaf (Zab Try.f64) 0) = [] by kernel_rfl)) ref30_measured_L0_D bn0 (Zck qd qk qe ql qm n) (ZjP qd qk qe ql qm n)
theorem Zjj {K : Zaa} (hK : ∀ args h, K 64 args h = none) (qd : T3a) (qk : T3i) (qe : T3b) (ql : T3j) (qm : T3f) (h0 : P3c K qd) (h1 : P3j K qk) (h2 : P3d K qe) (h3 : P3k K ql) (h4 : P3l K qm) (t : PX X (AK.tys [.ty 33, .ty 22]) → Option (PX X [3, 4])) (h : ∀ a r, t a = some r → ∃ n, Zfj qd qk qe ql qm n a.1 a.2 = some r) : Zag U (Zac C K) 64 ⟨true, [.ty 33, .ty 22], [3, 4], t⟩ := by
  refine Zan (x := Zbp qd qk qe ql qm) (ak := [.ty 33, .ty 22]) (rts := [3, 4]) (dir := true) ok (Zg0 qd qk qe ql qm h0 h1 h2 h3 h4) hK Try.func64 ZlK fun a r hr => ?_
  obtain ⟨n, hn⟩ := h a r hr
  exact ⟨n, Zcw qd qk qe ql qm n, (ZaB (ids := [0]) (by kernel_rfl) (by decide) (fun i hi => by
    simp only [List.mem_cons, List.not_mem_nil, or_false] at hi
    rcases hi with rfl
    · exact Zay (c2 := Zaf (Zab Try.f64) 0) (by kernel_rfl) (by kernel_rfl) (Ziy qd qk qe ql qm h0 h1 h2 h3 h4 _ _ (Nat.le_refl _))
    )), (ZnH qd qk qe ql qm n a).trans hn⟩
def ZhI (qa : T3a) (qn : T3k) (qb : T3b) {R : Type} (n : Nat) (a1 : List ((List UInt8) × (List Val))) (a4 : List Val) (a13 : List Val) (a14 : Int) (kx0 : List Val → Option R) (y5 : List Val) (y15 : Int) (k : List Val → Int → Option R) : Option R :=
  cond (decide (y15 < a14))
  (Option.bind (Zbt a13 y15) fun x2 =>
  Option.bind (qa (Val.mk x2.tok x2.l)) fun r3 =>
  cond (!r3)
  (Option.bind (qn (x2.l, a1)) fun r4 =>
  Option.bind (Option.bind (room 80 (y5.length + [(Val.mk x2.tok r4)].length)) (fun _ => some (y5 ++ [(Val.mk x2.tok r4)]))) fun o5 =>
  k o5 (IntKind.i64.wrap (y15 + (1 : Int))))
  (Option.bind (qb (Val.mk x2.tok x2.l)) fun r6 =>
  Option.bind (some (cond ((Zbd BEq.beq r6.1 a1).isSome) y5 y5)) fun m7 =>
  Option.bind (some (cond ((Zbd BEq.beq r6.1 a1).isSome) x2.tok.k x2.tok.k)) fun m8 =>
  Option.bind (some (cond ((Zbd BEq.beq r6.1 a1).isSome) x2.tok.t x2.tok.t)) fun m9 =>
  Option.bind (some (cond ((Zbd BEq.beq r6.1 a1).isSome) x2.tok.n x2.tok.n)) fun m10 =>
  Option.bind (some (cond ((Zbd BEq.beq r6.1 a1).isSome) x2.tok.u x2.tok.u)) fun m11 =>
  Option.bind (some (cond ((Zbd BEq.beq r6.1 a1).isSome) x2.tok.f x2.tok.f)) fun m12 =>
  Option.bind (some (cond ((Zbd BEq.beq r6.1 a1).isSome) x2.l x2.l)) fun m13 =>
  Option.bind (some (cond ((Zbd BEq.beq r6.1 a1).isSome) (ZnN [] (Zbd BEq.beq r6.1 a1)) r6.2.1)) fun m14 =>
  Option.bind (qn (m14, a1)) fun r15 =>
  Option.bind (Option.bind (room 80 (m7.length + r15.length)) (fun _ => some (m7 ++ r15))) fun o16 =>
  k o16 (IntKind.i64.wrap (y15 + (1 : Int)))))
  (kx0 y5)
def ZnO (qa : T3a) (qn : T3k) (qb : T3b) (n : Nat) (p0 : List Val) (p1 : List ((List UInt8) × (List Val))) : Option (List Val) :=
  ZcS (ZhI qa qn qb n p1 [] p0 (p0.length : Int) (fun z1 =>
  some z1)) n [] (0 : Int)
abbrev ZyH (qa : T3a) (qn : T3k) (qb : T3b) : List (Nat × TCall X) := [(55, ⟨true, [.ty 60], [4], qa⟩), (63, ⟨true, [.ty 33, .ty 70], [33], qn⟩), (56, ⟨true, [.ty 60], [9, 33, 4], qb⟩)]
noncomputable abbrev Ze2 (qa : T3a) (qn : T3k) (qb : T3b) : Cx := ⟨C, U, ZyH qa qn qb, [], fun _ => []⟩
theorem Zwz : okF (C.ann 63) Try.f63 2 = true := by kernel_rfl
abbrev vars_put_L0_D : LD := ⟨0, [.val 1 70, .val 4 33, .val 13 33, .val 14 2], [.own 5 60, .val 15 2], [(0, [.own 5 60])], []⟩
abbrev ZfW (qa : T3a) (qn : T3k) (qb : T3b) (n : Nat) : LG U (PX X [33]) vars_put_L0_D := fun c kx kr y k => ZhI qa qn qb n c.1 c.2.1 c.2.2.1 c.2.2.2.1 (fun z0 => kx 0 (z0, ())) y.1 y.2.1 (fun z0 z1 => k (z0, z1, ()))
noncomputable abbrev ZfJ (qa : T3a) (qn : T3k) (qb : T3b) (n : Nat) : ZdW (Ze2 qa qn qb) (PX X [33]) := [(0, Zca U vars_put_L0_D (ZfW qa qn qb n) n)]
theorem Zsa (qa : T3a) (qn : T3k) (qb : T3b) (n : Nat) : ∀ c kx kr y k1, evL (Ze2 qa qn qb) (ann 63) (ZfJ qa qn qb n) 0 (Zaf (Zab Try.f63) 0) (ZbY U vars_put_L0_D kx kr k1) (encS U vars_put_L0_D.cap vars_put_L0_D.din c y) = ZfW qa qn qb n c (fun i z => kx i c z) kr y (fun y2 => k1 c y2) := by
  intro c kx kr y k1
  kernel_rfl
theorem ZyL (qa : T3a) (qn : T3k) (qb : T3b) (n : Nat) : ∀ a, fnL (Ze2 qa qn qb) true 63 Try.f63 [.ty 33, .ty 70] [33] (ZfJ qa qn qb n) a = ZnO qa qn qb n a.1 a.2 := by
  intro a
  kernel_rfl
theorem ZoI {K : Zaa} (qa : T3a) (qn : T3k) (qb : T3b) (h0 : P3a K qa) (h1 : P3m K qn) (h2 : P3b K qb) : CallsOk (Ze2 qa qn qb) (Zac C K) :=
  ⟨(Zad h0 (Zad h1 (Zad h2 Zap))), Zao⟩
theorem Zpk {K : Zaa} (qa : T3a) (qn : T3k) (qb : T3b) (h0 : P3a K qa) (h1 : P3m K qn) (h2 : P3b K qb) (n : Nat) (b0 : Base) (bn0 : b0.nr ≤ 0) : Law (Ze2 qa qn qb) b0 (Zac C K) (ann 63) n (Zaf (Zab Try.f63) 0) (Zca U vars_put_L0_D (ZfW qa qn qb n) n) :=
  Za6 (x := Ze2 qa qn qb) (id := 0) ok (ZoI qa qn qb h0 h1 h2) (sums := ZfJ qa qn qb n) (Zaj (show Zam 0 (Zaf (Zab Try.f63) 0) = [] by kernel_rfl)) vars_put_L0_D bn0 (ZfW qa qn qb n) (Zsa qa qn qb n)
theorem ZpM {K : Zaa} (hK : ∀ args h, K 63 args h = none) (qa : T3a) (qn : T3k) (qb : T3b) (h0 : P3a K qa) (h1 : P3m K qn) (h2 : P3b K qb) (t : PX X (AK.tys [.ty 33, .ty 70]) → Option (PX X [33])) (h : ∀ a r, t a = some r → ∃ n, ZnO qa qn qb n a.1 a.2 = some r) : Zag U (Zac C K) 63 ⟨true, [.ty 33, .ty 70], [33], t⟩ := by
  refine Zan (x := Ze2 qa qn qb) (ak := [.ty 33, .ty 70]) (rts := [33]) (dir := true) ok (ZoI qa qn qb h0 h1 h2) hK Try.func63 Zwz fun a r hr => ?_
  obtain ⟨n, hn⟩ := h a r hr
  exact ⟨n, ZfJ qa qn qb n, (ZaB (ids := [0]) (by kernel_rfl) (by decide) (fun i hi => by
    simp only [List.mem_cons, List.not_mem_nil, or_false] at hi
    rcases hi with rfl
    · exact Zay (c2 := Zaf (Zab Try.f63) 0) (by kernel_rfl) (by kernel_rfl) (Zpk qa qn qb h0 h1 h2 _ _ (Nat.le_refl _))
    )), (ZyL qa qn qb n a).trans hn⟩
def Zde (qd : T3a) (qo : T3l) (qe : T3b) (ql : T3j) (qp : T3m) {R : Type} (n : Nat) (a0 : List Val) (a1 : List Cus) (a4 : List Val) (kx0 : List Val → Option R) (y5 : List Val) (y6 : Int) (k : List Val → Int → Option R) : Option R :=
  cond (decide (y6 < (a0.length : Int)))
  (Option.bind (Zbt a0 y6) fun x2 =>
  Option.bind (qd (Val.mk x2.tok x2.l)) fun r3 =>
  cond (!r3)
  (Option.bind (Zbt a0 y6) fun x4 =>
  Option.bind (Zbt a0 y6) fun x5 =>
  Option.bind (qo (x5.l, a1)) fun r6 =>
  Option.bind (Option.bind (room 80 (y5.length + [(Val.mk x4.tok r6)].length)) (fun _ => some (y5 ++ [(Val.mk x4.tok r6)]))) fun o7 =>
  k o7 (IntKind.i64.wrap (y6 + (1 : Int))))
  (Option.bind (Zbt a0 y6) fun x8 =>
  Option.bind (qe (Val.mk x8.tok x8.l)) fun r9 =>
  Option.bind (ql (a1, r9.1)) fun r10 =>
  Option.bind (cond (decide (r10 ≥ (0 : Int))) (Zbt a1 r10) (some YcQ)) fun x11 =>
  Option.bind (cond (decide (r10 ≥ (0 : Int))) (qp x11.val) (some [])) fun r12 =>
  Option.bind (cond (decide (r10 ≥ (0 : Int))) (Option.bind (room 80 (y5.length + r12.length)) (fun _ => some (y5 ++ r12))) (some y5)) fun o13 =>
  Option.bind (cond (!(decide (r10 ≥ (0 : Int)))) (qo (r9.2.1, a1)) (some [])) fun r14 =>
  Option.bind (cond (!(decide (r10 ≥ (0 : Int)))) (Option.bind (room 80 (y5.length + r14.length)) (fun _ => some (y5 ++ r14))) (some y5)) fun o15 =>
  Option.bind (some (cond (decide (r10 ≥ (0 : Int))) o13 o15)) fun m16 =>
  k m16 (IntKind.i64.wrap (y6 + (1 : Int)))))
  (kx0 y5)
def Zfd (qd : T3a) (qo : T3l) (qe : T3b) (ql : T3j) (qp : T3m) (n : Nat) (p0 : List Val) (p1 : List Cus) : Option (List Val) :=
  ZcS (Zde qd qo qe ql qp n p0 p1 [] (fun z1 =>
  some z1)) n [] (0 : Int)
abbrev Znl (qd : T3a) (qo : T3l) (qe : T3b) (ql : T3j) (qp : T3m) : List (Nat × TCall X) := [(60, ⟨true, [.ty 60], [4], qd⟩), (65, ⟨true, [.ty 33, .ty 22], [33], qo⟩), (61, ⟨true, [.ty 60], [9, 33, 4], qe⟩), (69, ⟨true, [.ty 22, .ty 9], [3], ql⟩), (13, ⟨true, [.ty 33], [33], qp⟩)]
noncomputable abbrev Zbo (qd : T3a) (qo : T3l) (qe : T3b) (ql : T3j) (qp : T3m) : Cx := ⟨C, U, Znl qd qo qe ql qp, [], fun _ => []⟩
theorem ZlV : okF (C.ann 65) Try.f65 2 = true := by kernel_rfl
abbrev ref30_replaced_L0_D : LD := ⟨0, [.val 0 33, .val 1 22, .val 4 33], [.own 5 60, .val 6 2], [(0, [.own 5 60])], []⟩
abbrev Zcq (qd : T3a) (qo : T3l) (qe : T3b) (ql : T3j) (qp : T3m) (n : Nat) : LG U (PX X [33]) ref30_replaced_L0_D := fun c kx kr y k => Zde qd qo qe ql qp n c.1 c.2.1 c.2.2.1 (fun z0 => kx 0 (z0, ())) y.1 y.2.1 (fun z0 z1 => k (z0, z1, ()))
noncomputable abbrev Zcl (qd : T3a) (qo : T3l) (qe : T3b) (ql : T3j) (qp : T3m) (n : Nat) : ZdW (Zbo qd qo qe ql qp) (PX X [33]) := [(0, Zca U ref30_replaced_L0_D (Zcq qd qo qe ql qp n) n)]
theorem ZjU (qd : T3a) (qo : T3l) (qe : T3b) (ql : T3j) (qp : T3m) (n : Nat) : ∀ c kx kr y k1, evL (Zbo qd qo qe ql qp) (ann 65) (Zcl qd qo qe ql qp n) 0 (Zaf (Zab Try.f65) 0) (ZbY U ref30_replaced_L0_D kx kr k1) (encS U ref30_replaced_L0_D.cap ref30_replaced_L0_D.din c y) = Zcq qd qo qe ql qp n c (fun i z => kx i c z) kr y (fun y2 => k1 c y2) := by
  intro c kx kr y k1
  kernel_rfl
theorem Zm8 (qd : T3a) (qo : T3l) (qe : T3b) (ql : T3j) (qp : T3m) (n : Nat) : ∀ a, fnL (Zbo qd qo qe ql qp) true 65 Try.f65 [.ty 33, .ty 22] [33] (Zcl qd qo qe ql qp n) a = Zfd qd qo qe ql qp n a.1 a.2 := by
  intro a
  kernel_rfl
theorem Zg6 {K : Zaa} (qd : T3a) (qo : T3l) (qe : T3b) (ql : T3j) (qp : T3m) (h0 : P3c K qd) (h1 : P3n K qo) (h2 : P3d K qe) (h3 : P3k K ql) (h4 : P3o K qp) : CallsOk (Zbo qd qo qe ql qp) (Zac C K) :=
  ⟨(Zad h0 (Zad h1 (Zad h2 (Zad h3 (Zad h4 Zap))))), Zao⟩
theorem Zis {K : Zaa} (qd : T3a) (qo : T3l) (qe : T3b) (ql : T3j) (qp : T3m) (h0 : P3c K qd) (h1 : P3n K qo) (h2 : P3d K qe) (h3 : P3k K ql) (h4 : P3o K qp) (n : Nat) (b0 : Base) (bn0 : b0.nr ≤ 0) : Law (Zbo qd qo qe ql qp) b0 (Zac C K) (ann 65) n (Zaf (Zab Try.f65) 0) (Zca U ref30_replaced_L0_D (Zcq qd qo qe ql qp n) n) :=
  Za6 (x := Zbo qd qo qe ql qp) (id := 0) ok (Zg6 qd qo qe ql qp h0 h1 h2 h3 h4) (sums := Zcl qd qo qe ql qp n) (Zaj (show Zam 0 (Zaf (Zab Try.f65) 0) = [] by kernel_rfl)) ref30_replaced_L0_D bn0 (Zcq qd qo qe ql qp n) (ZjU qd qo qe ql qp n)
theorem Zjq {K : Zaa} (hK : ∀ args h, K 65 args h = none) (qd : T3a) (qo : T3l) (qe : T3b) (ql : T3j) (qp : T3m) (h0 : P3c K qd) (h1 : P3n K qo) (h2 : P3d K qe) (h3 : P3k K ql) (h4 : P3o K qp) (t : PX X (AK.tys [.ty 33, .ty 22]) → Option (PX X [33])) (h : ∀ a r, t a = some r → ∃ n, Zfd qd qo qe ql qp n a.1 a.2 = some r) : Zag U (Zac C K) 65 ⟨true, [.ty 33, .ty 22], [33], t⟩ := by
  refine Zan (x := Zbo qd qo qe ql qp) (ak := [.ty 33, .ty 22]) (rts := [33]) (dir := true) ok (Zg6 qd qo qe ql qp h0 h1 h2 h3 h4) hK Try.func65 ZlV fun a r hr => ?_
  obtain ⟨n, hn⟩ := h a r hr
  exact ⟨n, Zcl qd qo qe ql qp n, (ZaB (ids := [0]) (by kernel_rfl) (by decide) (fun i hi => by
    simp only [List.mem_cons, List.not_mem_nil, or_false] at hi
    rcases hi with rfl
    · exact Zay (c2 := Zaf (Zab Try.f65) 0) (by kernel_rfl) (by kernel_rfl) (Zis qd qo qe ql qp h0 h1 h2 h3 h4 _ _ (Nat.le_refl _))
    )), (Zm8 qd qo qe ql qp n a).trans hn⟩
def Zgv (qi : T3h) (qq : T3n) (qn : T3k) (qr : T3f) (n : Nat) (p0 : List Val) (p1 : List ((List UInt8) × (List Val))) : Option ((List Val) × Int) :=
  Option.bind (qi (p0, p1)) fun r1 =>
  cond (decide (r1 < (0 : Int)))
  (some ([], (6 : Int)))
  (Option.bind (cond (decide (r1 > (2000 : Int))) (qq p0) (some false)) fun r2 =>
  Option.bind (some (cond (decide (r1 > (2000 : Int))) r2 false)) fun m3 =>
  cond m3
  (some ([], (28 : Int)))
  (Option.bind (qn (p0, p1)) fun r4 =>
  Option.bind (qr r4) fun r5 =>
  cond (r5 != (0 : Int))
  (some ([], r5))
  (some (r4, (0 : Int)))))
abbrev Zqv (qi : T3h) (qq : T3n) (qn : T3k) (qr : T3f) : List (Nat × TCall X) := [(62, ⟨true, [.ty 33, .ty 70], [3], qi⟩), (29, ⟨true, [.ty 33], [4], qq⟩), (63, ⟨true, [.ty 33, .ty 70], [33], qn⟩), (24, ⟨true, [.ty 33], [25], qr⟩)]
noncomputable abbrev Zfl (qi : T3h) (qq : T3n) (qn : T3k) (qr : T3f) : Cx := ⟨C, U, Zqv qi qq qn qr, [], fun _ => []⟩
theorem ZoN : okF (C.ann 39) Try.f39 2 = true := by kernel_rfl
noncomputable abbrev ZgU (qi : T3h) (qq : T3n) (qn : T3k) (qr : T3f) (n : Nat) : ZdW (Zfl qi qq qn qr) (PX X [33, 25]) := []
theorem Zqj (qi : T3h) (qq : T3n) (qn : T3k) (qr : T3f) (n : Nat) : ∀ a, fnL (Zfl qi qq qn qr) true 39 Try.f39 [.ty 33, .ty 70] [33, 25] (ZgU qi qq qn qr n) a = Zgv qi qq qn qr n a.1 a.2 := by
  intro a
  kernel_rfl
theorem ZoX {K : Zaa} (qi : T3h) (qq : T3n) (qn : T3k) (qr : T3f) (h0 : P3h K qi) (h1 : P3p K qq) (h2 : P3m K qn) (h3 : P3q K qr) : CallsOk (Zfl qi qq qn qr) (Zac C K) :=
  ⟨(Zad h0 (Zad h1 (Zad h2 (Zad h3 Zap)))), Zao⟩
theorem ZkS {K : Zaa} (hK : ∀ args h, K 39 args h = none) (qi : T3h) (qq : T3n) (qn : T3k) (qr : T3f) (h0 : P3h K qi) (h1 : P3p K qq) (h2 : P3m K qn) (h3 : P3q K qr) (t : PX X (AK.tys [.ty 33, .ty 70]) → Option (PX X [33, 25])) (h : ∀ a r, t a = some r → ∃ n, Zgv qi qq qn qr n a.1 a.2 = some r) : Zag U (Zac C K) 39 ⟨true, [.ty 33, .ty 70], [33, 25], t⟩ := by
  refine Zan (x := Zfl qi qq qn qr) (ak := [.ty 33, .ty 70]) (rts := [33, 25]) (dir := true) ok (ZoX qi qq qn qr h0 h1 h2 h3) hK Try.func39 ZoN fun a r hr => ?_
  obtain ⟨n, hn⟩ := h a r hr
  exact ⟨n, ZgU qi qq qn qr n, (Zaj (show Zam 0 (Zab Try.f39) = [] by kernel_rfl)), (Zqj qi qq qn qr n a).trans hn⟩
def Zli (qk : T3i) (qs : T3n) (qo : T3l) (qg : T3f) (n : Nat) (p0 : List Val) (p1 : List Cus) : Option ((List Val) × Int) :=
  Option.bind (qk (p0, p1)) fun r1 =>
  cond (!r1.2)
  (some ([], (6 : Int)))
  (Option.bind (cond (decide (r1.1 > (2000 : Int))) (qs p0) (some false)) fun r2 =>
  Option.bind (some (cond (decide (r1.1 > (2000 : Int))) r2 false)) fun m3 =>
  cond m3
  (some ([], (28 : Int)))
  (Option.bind (qo (p0, p1)) fun r4 =>
  Option.bind (qg r4) fun r5 =>
  cond (r5 != (0 : Int))
  (some ([], r5))
  (some (r4, (0 : Int)))))
abbrev Zwy (qk : T3i) (qs : T3n) (qo : T3l) (qg : T3f) : List (Nat × TCall X) := [(64, ⟨true, [.ty 33, .ty 22], [3, 4], qk⟩), (31, ⟨true, [.ty 33], [4], qs⟩), (65, ⟨true, [.ty 33, .ty 22], [33], qo⟩), (27, ⟨true, [.ty 33], [3], qg⟩)]
noncomputable abbrev Zhi (qk : T3i) (qs : T3n) (qo : T3l) (qg : T3f) : Cx := ⟨C, U, Zwy qk qs qo qg, [], fun _ => []⟩
theorem Zu7 : okF (C.ann 41) Try.f41 2 = true := by kernel_rfl
noncomputable abbrev Zjz (qk : T3i) (qs : T3n) (qo : T3l) (qg : T3f) (n : Nat) : ZdW (Zhi qk qs qo qg) (PX X [33, 3]) := []
theorem ZwU (qk : T3i) (qs : T3n) (qo : T3l) (qg : T3f) (n : Nat) : ∀ a, fnL (Zhi qk qs qo qg) true 41 Try.f41 [.ty 33, .ty 22] [33, 3] (Zjz qk qs qo qg n) a = Zli qk qs qo qg n a.1 a.2 := by
  intro a
  kernel_rfl
theorem Zvh {K : Zaa} (qk : T3i) (qs : T3n) (qo : T3l) (qg : T3f) (h0 : P3j K qk) (h1 : P3r K qs) (h2 : P3n K qo) (h3 : P3f K qg) : CallsOk (Zhi qk qs qo qg) (Zac C K) :=
  ⟨(Zad h0 (Zad h1 (Zad h2 (Zad h3 Zap)))), Zao⟩
theorem Zop {K : Zaa} (hK : ∀ args h, K 41 args h = none) (qk : T3i) (qs : T3n) (qo : T3l) (qg : T3f) (h0 : P3j K qk) (h1 : P3r K qs) (h2 : P3n K qo) (h3 : P3f K qg) (t : PX X (AK.tys [.ty 33, .ty 22]) → Option (PX X [33, 3])) (h : ∀ a r, t a = some r → ∃ n, Zli qk qs qo qg n a.1 a.2 = some r) : Zag U (Zac C K) 41 ⟨true, [.ty 33, .ty 22], [33, 3], t⟩ := by
  refine Zan (x := Zhi qk qs qo qg) (ak := [.ty 33, .ty 22]) (rts := [33, 3]) (dir := true) ok (Zvh qk qs qo qg h0 h1 h2 h3) hK Try.func41 Zu7 fun a r hr => ?_
  obtain ⟨n, hn⟩ := h a r hr
  exact ⟨n, Zjz qk qs qo qg n, (Zaj (show Zam 0 (Zab Try.f41) = [] by kernel_rfl)), (ZwU qk qs qo qg n a).trans hn⟩
def ZfG {R : Type} (n : Nat) (a0 : List Cus) (a1 : List UInt8) (kx0 : Int → Option R) (kr : Int → Option R) (y4 : Int) (y5 : Int) (k : Int → Int → Option R) : Option R :=
  cond (decide (y5 < (a0.length : Int)))
  (Option.bind (Zbt a0 y5) fun x3 =>
  cond (x3.name == a1)
  (kr y5)
  (k y4 (IntKind.i64.wrap (y5 + (1 : Int)))))
  (kx0 y4)
def Zji (n : Nat) (p0 : List Cus) (p1 : List UInt8) : Option Int :=
  ZcS (ZfG n p0 p1 (fun z1 =>
  some (-1 : Int)) (fun z2 =>
  some z2)) n (0 : Int) (0 : Int)
abbrev Zuc : List (Nat × TCall X) := []
noncomputable abbrev Zc5 : Cx := ⟨C, U, Zuc , [], fun _ => []⟩
theorem Zr8 : okF (C.ann 69) Try.f69 2 = true := by kernel_rfl
abbrev ref30_Find_L0_D : LD := ⟨0, [.val 0 22, .val 1 9], [.val 4 2, .val 5 2], [(0, [.val 4 2])], [.val 4 3]⟩
abbrev Zev (n : Nat) : LG U (PX X [3]) ref30_Find_L0_D := fun c kx kr y k => ZfG n c.1 c.2.1 (fun z0 => kx 0 (z0, ())) (fun z0 => kr (z0, ())) y.1 y.2.1 (fun z0 z1 => k (z0, z1, ()))
noncomputable abbrev ZeA (n : Nat) : ZdW (Zc5 ) (PX X [3]) := [(0, Zca U ref30_Find_L0_D (Zev n) n)]
theorem Zou (n : Nat) : ∀ c kx kr y k1, evL (Zc5 ) (ann 69) (ZeA n) 0 (Zaf (Zab Try.f69) 0) (ZbY U ref30_Find_L0_D kx kr k1) (encS U ref30_Find_L0_D.cap ref30_Find_L0_D.din c y) = Zev n c (fun i z => kx i c z) kr y (fun y2 => k1 c y2) := by
  intro c kx kr y k1
  kernel_rfl
theorem ZtC (n : Nat) : ∀ a, fnL (Zc5 ) true 69 Try.f69 [.ty 22, .ty 9] [3] (ZeA n) a = Zji n a.1 a.2 := by
  intro a
  kernel_rfl
theorem Zko {K : Zaa} : CallsOk (Zc5 ) (Zac C K) :=
  ⟨Zap, Zao⟩
theorem Zmg {K : Zaa} (n : Nat) (b0 : Base) (bn0 : b0.nr ≤ 0) : Law (Zc5 ) b0 (Zac C K) (ann 69) n (Zaf (Zab Try.f69) 0) (Zca U ref30_Find_L0_D (Zev n) n) :=
  Za6 (x := Zc5 ) (id := 0) ok (Zko ) (sums := ZeA n) (Zaj (show Zam 0 (Zaf (Zab Try.f69) 0) = [] by kernel_rfl)) ref30_Find_L0_D bn0 (Zev n) (Zou n)
theorem Zni {K : Zaa} (hK : ∀ args h, K 69 args h = none) (t : PX X (AK.tys [.ty 22, .ty 9]) → Option (PX X [3])) (h : ∀ a r, t a = some r → ∃ n, Zji n a.1 a.2 = some r) : Zag U (Zac C K) 69 ⟨true, [.ty 22, .ty 9], [3], t⟩ := by
  refine Zan (x := Zc5 ) (ak := [.ty 22, .ty 9]) (rts := [3]) (dir := true) ok (Zko ) hK Try.func69 Zr8 fun a r hr => ?_
  obtain ⟨n, hn⟩ := h a r hr
  exact ⟨n, ZeA n, (ZaB (ids := [0]) (by kernel_rfl) (by decide) (fun i hi => by
    simp only [List.mem_cons, List.not_mem_nil, or_false] at hi
    rcases hi with rfl
    · exact Zay (c2 := Zaf (Zab Try.f69) 0) (by kernel_rfl) (by kernel_rfl) (Zmg _ _ (Nat.le_refl _))
    )), (ZtC n a).trans hn⟩
end Go.Tev.S1
namespace Go.Tev.S1
open Go.Abs Go.Proofs
def Ycl (a : List Cus × List UInt8) : Option Int := if a.1.length ≤ B then some (Zfx a.1 a.2 0) else none
theorem Zsk {c : List Cus} {n : List UInt8} (h : c.length ≤ B) : Ycl (c, n) = some (Zfx c n 0) := if_pos h
theorem YbT (c : List Cus) (n : List UInt8) (h : c.length ≤ B) : Zji (c.length + 1) c n = some (Zfx c n 0) := by
  have hB : B = 2 ^ 36 := rfl
  unfold Zji
  refine (Za3 c (fun (_ : Nat) => (0 : Int)) (fun b v => if v.name == n then .inr (some (b : Int)) else .inl (b + 1)) (fun b => some (-1 : Int)) (fun i b => b = i) ?_ ?_ ?_ 0 rfl _ (Nat.lt_succ_self _)).trans ?_
  · intro i b v k' hv hlt hb
    subst hb
    simp (disch := omega) only [ZfG, ZaA hv, Option.bind_some, dlt hlt, cond_true, Za8]
    cases (v.name == n) <;> rfl
  · intro i b v b' hv hb hs
    subst hb
    cases e : (v.name == n) <;> rw [e] at hs <;> cases hs
    rfl
  · intro b k' hb
    simp only [ZfG, ZiB, cond_false]
  · clear h
    have : ∀ (l : List Cus) (b : Nat), ZmL (fun (b : Nat) (v : Cus) => if v.name == n then .inr (some (b : Int)) else .inl (b + 1)) (fun _ => some (-1 : Int)) l b = some (Zfx l n (b : Int)) := by
      intro l
      induction l with
      | nil => intro b; rfl
      | cons v l ih =>
        intro b
        simp only [ZmL, Zfx]
        cases (v.name == n) with
        | true => rfl
        | false => exact ih (b + 1)
    exact this c 0
theorem Ycy {K : Zaa} (hK : Zcf K) : Zag U (Zac C K) 69 ⟨true, [.ty 22, .ty 9], [3], Ycl⟩ :=
  Zni (kf hK 69 (by decide)) _ fun a r h => by
    unfold Ycl at h
    split at h
    · rename_i h3; cases h; exact ⟨_, YbT a.1 a.2 h3⟩
    · cases h
def ZtU (lk : Lk) (l : List Val) : Int := match Zfr lk l with
  | some m => m
  | none => -1
theorem ZxD {R : Type} (lk : Lk) (z : Option R) (kx : List Val → Option R) : ∀ (l b : List Val), (Zfr lk b).isSome = true →
    ZmL (fun b v => if (Zfr lk (b ++ [v])).isSome = true then .inl (b ++ [v]) else .inr z) kx l b = if (Zfr lk (b ++ l)).isSome = true then kx (b ++ l) else z := by
  intro l
  induction l with
  | nil => intro b hb; simp only [ZmL, List.append_nil, if_pos hb]
  | cons v l ih =>
    intro b hb
    simp only [ZmL]
    by_cases h : (Zfr lk (b ++ [v])).isSome = true
    · rw [if_pos h]
      simp only
      rw [ih _ h, List.append_assoc]; rfl
    · rw [if_neg h]
      have : ¬ (Zfr lk (b ++ v :: l)).isSome = true := by
        intro h2
        apply h
        have e : b ++ v :: l = (b ++ [v]) ++ l := by simp
        rw [e, ZjN] at h2
        cases hh : Zfr lk (b ++ [v]) with
        | none => rw [hh] at h2; simp [ZmU] at h2
        | some x => rfl
      rw [if_neg this]
def okM (a : List Val × List (List UInt8 × List Val)) : Prop := Zal a.1 ≤ B ∧ ∀ p ∈ a.2, Zal p.2 ≤ V
instance (a) : Decidable (okM a) := inferInstanceAs (Decidable (_ ∧ _))
def Yfx (a : List Val × List (List UInt8 × List Val)) : Option Int := if okM a then some (ZtU (lkM a.2) a.1) else none
theorem Zwf {l : List Val} {m : List (List UInt8 × List Val)} (h : Zal l ≤ B) (h2 : ∀ p ∈ m, Zal p.2 ≤ V) : Yfx (l, m) = some (ZtU (lkM m) l) := if_pos ⟨h, h2⟩
theorem Zg9 {lk : Lk} {l : List Val} {m : Nat} (h : Zal l ≤ B) (h2 : ∀ n x, lk n = some x → Zal x ≤ V) (hm : Zfr lk l = some m) : m ≤ 2 ^ 60 := by
  have h3 := YiD lk V (by decide) h2 l m hm
  have h4 : Zal l * V ≤ B * V := Nat.mul_le_mul_right _ h
  have h5 : B * V = 2 ^ 60 := by decide
  omega
theorem Zfv {lk : Lk} {l : List Val} {m : Nat} (h : Zfr lk l = some m) : ZtU lk l = (m : Int) := by unfold ZtU; rw [h]
theorem Zlf {lk : Lk} {l : List Val} (h : Zfr lk l = none) : ZtU lk l = -1 := by unfold ZtU; rw [h]
theorem Zwg : decide ((-1 : Int) < 0) = true := rfl
theorem Ztr (m : List (List UInt8 × List Val)) (l : List Val) (k : Nat) (h1 : Zal l < k + 1) (h2 : Zal l ≤ B) (hm : ∀ p ∈ m, Zal p.2 ≤ V) :
    Zgr (fun v => some v.ref) (below (fun a : List Val × List (List UInt8 × List Val) => Zal a.1) k Yfx) ZiA Zgm (l.length + 1) l m = some (ZtU (lkM m) l) := by
  have hB : B = 2 ^ 36 := rfl
  have hV : V = 2 ^ 24 := rfl
  have hlk : ∀ n x, lkM m n = some x → Zal x ≤ V := by
    intro n x h
    obtain ⟨p, hp, rfl⟩ := YbE h
    exact hm p hp
  unfold Zgr
  have e0 : ZtU (lkM m) [] = 0 := by unfold ZtU; rw [Zda]; rfl
  refine ((congrArg (fun z => Zha _ _ (0 : Int) z (0 : Int)) e0.symm).trans (Zf1 l (fun (_ : List Val) => (0 : Int)) (fun b => ZtU (lkM m) b) (fun b v => if (Zfr (lkM m) (b ++ [v])).isSome = true then .inl (b ++ [v]) else .inr (some (-1 : Int))) (fun b => some (ZtU (lkM m) b)) (fun i b => b = l.take i ∧ (Zfr (lkM m) b).isSome = true) ?_ ?_ ?_ [] ⟨rfl, by rw [Zda]; rfl⟩ _ (Nat.lt_succ_self _))).trans ?_
  · intro i b v k' hv hlt hb
    obtain ⟨hb, hbs⟩ := hb
    obtain ⟨nb, hnb⟩ := Option.isSome_iff_exists.1 hbs
    have hmem := List.mem_of_getElem? hv
    have hs := Zcz hmem
    have hm1 := Zhq hmem
    have hl := Zb3 l
    have he := v.tot_eq
    have hp := Ziz v.l
    have hble : Zal b ≤ B := by rw [hb]; exact Nat.le_trans (Zcs l i) h2
    have hbb := Zg9 hble hlk hnb
    have ib := Zfv hnb
    have hbel : below (fun a : List Val × List (List UInt8 × List Val) => Zal a.1) k Yfx (v.l, m) = some (ZtU (lkM m) v.l) := (Zby (sz := fun a : List Val × List (List UInt8 × List Val) => Zal a.1) (show Zal v.l < k by omega)).trans (Zwf (by omega) hm)
    have hbel2 : below (fun a : List Val × List (List UInt8 × List Val) => Zal a.1) k Yfx ((Zav v.l).2.1, m) = some (ZtU (lkM m) (Zav v.l).2.1) := (Zby (sz := fun a : List Val × List (List UInt8 × List Val) => Zal a.1) (show Zal (Zav v.l).2.1 < k by omega)).trans (Zwf (by omega) hm)
    have hi : IntKind.i64.wrap ((i : Int) + 1) = ((i + 1 : Nat) : Int) := Zaz (by omega)
    simp only [Zey, ZaA hv, Option.bind_some, dlt hlt, cond_true, Val.eta, hi, Bool.cond_self]
    have hsn := Zul (lkM m) b v
    rw [hnb] at hsn
    rw [ib]
    cases e1 : v.ref
    · rw [Zo5 e1] at hsn
      simp only [Bool.not_false, Bool.not_true, cond_true, cond_false, Option.bind_some, hbel, Bool.false_and]
      cases e2 : Zfr (lkM m) v.l with
      | none =>
        rw [e2] at hsn
        rw [Zlf e2, hsn]
        simp only [Zwg, cond_true, ZmU, Option.isSome_none, Bool.false_eq_true, if_false]
      | some n =>
        have hnn := Zg9 (show Zal v.l ≤ B by omega) hlk e2
        rw [e2] at hsn
        have e3 : decide ((n : Int) < 0) = false := by simp
        rw [Zfv e2, e3, if_pos (by rw [hsn]; rfl)]
        simp only [cond_false]
        rw [Zfv hsn]
        simp (disch := omega) only [Za8]
        have hx : (nb : Int) + (1 + (v.tok.t.length : Int) + (v.tok.u.length : Int)) + (n : Int) = ((nb + ((1 + v.tok.t.length + v.tok.u.length) + n) : Nat) : Int) := by omega
        rw [hx]
    · simp only [Bool.not_false, Bool.not_true, cond_true, cond_false, Option.bind_some, ZgW (show v.tot ≤ B by omega), Bool.true_and]
      cases e2 : Zbd BEq.beq (Zav v.l).1 m with
      | some x =>
        have e2' : lkM m (Zav v.l).1 = some x := e2
        have hxl := hlk _ _ e2'
        rw [Zxc e1 e2'] at hsn
        simp only [ZnN, Option.isSome_some, cond_true, Bool.not_true, Bool.false_and, cond_false, Zgs (show Zal x ≤ B by omega), Option.bind_some]
        have e3 : decide ((Zal x : Int) < 0) = false := by simp
        rw [e3, if_pos (by rw [hsn]; rfl)]
        simp only [cond_false]
        rw [Zfv hsn, Za8 (by omega) (by omega)]
        rfl
      | none =>
        have e2' : lkM m (Zav v.l).1 = none := e2
        simp only [Option.isSome_none, cond_false, Bool.not_false, Bool.true_and, Option.bind_some]
        cases e3 : (Zav v.l).2.2
        · rw [ZsL e1 e2' e3] at hsn
          rw [hsn]
          simp only [Zwg, cond_true, cond_false, Option.bind_some, ZmU, Option.isSome_none, Bool.false_eq_true, if_false]
        · rw [Zsv e1 e2' e3] at hsn
          simp only [cond_true, hbel2, Option.bind_some]
          cases e4 : Zfr (lkM m) (Zav v.l).2.1 with
          | none =>
            rw [e4] at hsn
            rw [Zlf e4, hsn]
            simp only [Zwg, cond_true, ZmU, Option.isSome_none, Bool.false_eq_true, if_false]
          | some n =>
            rw [e4] at hsn
            have hnn := Zg9 (show Zal (Zav v.l).2.1 ≤ B by omega) hlk e4
            have e5 : decide ((n : Int) < 0) = false := by simp
            rw [Zfv e4, e5, if_pos (by rw [hsn]; rfl)]
            simp only [cond_false]
            rw [Zfv hsn, Za8 (by omega) (by omega)]
            rfl
  · intro i b v b' hv hb hs
    split at hs
    · rename_i h; cases hs; exact ⟨by rw [ZaP hv, hb.1], h⟩
    · cases hs
  · intro b k' hb
    simp only [Zey, ZiB, cond_false]
  · rw [ZxD _ _ _ _ _ (by rw [Zda]; rfl)]
    simp only [List.nil_append]
    cases e : Zfr (lkM m) l with
    | none => rw [Zlf e]; rfl
    | some n => rfl
theorem YaZ {K : Zaa} (hK : Zcf K) : Zag U (Zac C K) 62 ⟨true, [.ty 33, .ty 70], [3], Yfx⟩ :=
  Zbs (U := U) (ak := [.ty 33, .ty 70]) (rts := [3]) (fun a : List Val × List (List UInt8 × List Val) => Zal a.1) Yfx fun k ih => ZlA (kf hK 62 (by decide)) _ _ _ _ (ZvX hK) ih (Zwt hK) (Ybc hK) _ fun a r h => by
    obtain ⟨h1, h2⟩ := Za9 h
    unfold Yfx at h2
    split at h2
    · rename_i h3; cases h2; exact ⟨_, Ztr a.2 a.1 k h1 h3.1 h3.2⟩
    · cases h2
end Go.Tev.S1
namespace Go.Tev
open Go.Abs
theorem Zy9 {A A' A'' R α β : Type} {g : A → A' → A'' → Int → (A → A' → A'' → Int → Option R) → Option R} (l : List α) (enc : β → A) (enc' : β → A') (enc'' : β → A'') (step : β → α → β ⊕ Option R) (kx : β → Option R) (inv : Nat → β → Prop)
    (hstep : ∀ (i : Nat) b v k, l[i]? = some v → i < l.length → inv i b → g (enc b) (enc' b) (enc'' b) i k = (match step b v with | .inl b' => k (enc b') (enc' b') (enc'' b') ((i + 1 : Nat) : Int) | .inr z => z))
    (hinv : ∀ i b v b', l[i]? = some v → inv i b → step b v = .inl b' → inv (i + 1) b') (hend : ∀ b k, inv l.length b → g (enc b) (enc' b) (enc'' b) (l.length : Int) k = kx b) (b0 : β) (h0 : inv 0 b0) (n : Nat) (hn : l.length < n) :
    Zuu g n (enc b0) (enc' b0) (enc'' b0) 0 = ZmL step kx l b0 := by
  unfold Zuu
  exact Zf2 l (fun i (b : β) => (enc b, enc' b, enc'' b, (i : Int), ())) step kx inv (fun i b v k hv hl hb => by
    simp only
    rw [hstep i b v _ hv hl hb]
    cases step b v <;> rfl) hinv (fun b k hb => hend b _ hb) l n 0 b0 rfl (Nat.zero_le _) h0 hn
theorem YgL {lk : Lk} {l : List Val} {n : Nat} (h : Zfr lk l = some n) {v : Val} (hv : v ∈ l) : ∃ n', ZwT lk v = some n' ∧ n' ≤ n := by
  induction l generalizing n with
  | nil => cases hv
  | cons w l ih =>
    rw [ZeI] at h
    obtain ⟨x, y, hx, hy, rfl⟩ := Zgj h
    rcases List.mem_cons.1 hv with rfl | hv
    · exact ⟨x, hx, by omega⟩
    · obtain ⟨n', h1, h2⟩ := ih hy hv
      exact ⟨n', h1, by omega⟩
theorem Ygv {lk : Lk} {l : List Val} {n : Nat} (h : Zfr lk l = some n) (i : Nat) : (ZeQ lk (l.take i)).length ≤ n := by
  rw [← List.take_append_drop i l, ZjN] at h
  obtain ⟨x, y, hx, hy, rfl⟩ := Zgj h
  have h1 := Ybv lk _ _ hx
  have h2 := Zb3 (ZeQ lk (l.take i))
  omega
theorem ZrX {l : List Val} {v : Val} (hv : v ∈ l) (h : v.hasv = true) : Zbg l = true := by
  induction l with
  | nil => cases hv
  | cons w l ih =>
    rw [Zbg]
    rcases List.mem_cons.1 hv with rfl | hv
    · rw [h]; rfl
    · rw [ih hv, Bool.or_true]
end Go.Tev
namespace Go.Tev.S1
open Go.Abs Go.Proofs
def YeJ (lk : Lk) (l : List Val) : Int × Bool := match Zfr lk l with
  | some m => (m, true)
  | none => (0, false)
theorem Zrs {lk : Lk} {l : List Val} {m : Nat} (h : Zfr lk l = some m) : YeJ lk l = ((m : Int), true) := by unfold YeJ; rw [h]
theorem Zkw {lk : Lk} {l : List Val} (h : Zfr lk l = none) : YeJ lk l = (0, false) := by unfold YeJ; rw [h]
def okC' (a : List Val × List Cus) : Prop := Zal a.1 ≤ B ∧ a.2.length ≤ B ∧ ∀ p ∈ a.2, Zal p.val ≤ V
instance (a) : Decidable (okC' a) := inferInstanceAs (Decidable (_ ∧ _ ∧ _))
def ZtW (a : List Val × List Cus) : Option (Int × Bool) := if okC' a then some (YeJ (lkC a.2) a.1) else none
theorem Zrm {l : List Val} {m : List Cus} (h : Zal l ≤ B) (h1 : m.length ≤ B) (h2 : ∀ p ∈ m, Zal p.val ≤ V) : ZtW (l, m) = some (YeJ (lkC m) l) := if_pos ⟨h, h1, h2⟩
abbrev szC (a : List Val × List Cus) : Nat := Zal a.1
theorem Zs5 (m : List Cus) (l : List Val) (k : Nat) (h1 : Zal l < k + 1) (h2 : Zal l ≤ B) (hc : m.length ≤ B) (hm : ∀ p ∈ m, Zal p.val ≤ V) :
    Zfj YhT (below szC k ZtW) ZiA Ycl Zgm (l.length + 1) l m = some (YeJ (lkC m) l) := by
  have hB : B = 2 ^ 36 := rfl
  have hV : V = 2 ^ 24 := rfl
  have hlk : ∀ n x, lkC m n = some x → Zal x ≤ V := by
    intro n x h
    obtain ⟨p, hp, rfl⟩ := Yar h
    exact hm p hp
  unfold Zfj
  have e0 : ZtU (lkC m) [] = 0 := by unfold ZtU; rw [Zda]; rfl
  refine ((congrArg (fun z => Zuu _ _ (0 : Int) false z (0 : Int)) e0.symm).trans (Zy9 l (fun (_ : List Val) => (0 : Int)) (fun _ => false) (fun b => ZtU (lkC m) b) (fun b v => if (Zfr (lkC m) (b ++ [v])).isSome = true then .inl (b ++ [v]) else .inr (some ((0 : Int), false))) (fun b => some (ZtU (lkC m) b, true)) (fun i b => b = l.take i ∧ (Zfr (lkC m) b).isSome = true) ?_ ?_ ?_ [] ⟨rfl, by rw [Zda]; rfl⟩ _ (Nat.lt_succ_self _))).trans ?_
  · intro i b v k' hv hlt hb
    obtain ⟨hb, hbs⟩ := hb
    obtain ⟨nb, hnb⟩ := Option.isSome_iff_exists.1 hbs
    have hmem := List.mem_of_getElem? hv
    have hs := Zcz hmem
    have hm1 := Zhq hmem
    have hl := Zb3 l
    have he := v.tot_eq
    have hp := Ziz v.l
    have hble : Zal b ≤ B := by rw [hb]; exact Nat.le_trans (Zcs l i) h2
    have hbb := Zg9 hble hlk hnb
    have ib := Zfv hnb
    have hbel : below szC k ZtW (v.l, m) = some (YeJ (lkC m) v.l) := (Zby (sz := szC) (show Zal v.l < k by omega)).trans (Zrm (by omega) hc hm)
    have hbel2 : below szC k ZtW ((Zav v.l).2.1, m) = some (YeJ (lkC m) (Zav v.l).2.1) := (Zby (sz := szC) (show Zal (Zav v.l).2.1 < k by omega)).trans (Zrm (by omega) hc hm)
    have hi : IntKind.i64.wrap ((i : Int) + 1) = ((i + 1 : Nat) : Int) := Zaz (by omega)
    have hsn := Zul (lkC m) b v
    rw [hnb] at hsn
    simp only [Zdq, ZaA hv, Option.bind_some, dlt hlt, cond_true, Val.eta, hi, ZwB (show v.tot ≤ B by omega)]
    rw [ib]
    cases e1 : v.ref
    · rw [Zo5 e1] at hsn
      simp only [Bool.not_false, Bool.not_true, cond_true, cond_false, Option.bind_some, hbel]
      cases e2 : Zfr (lkC m) v.l with
      | none =>
        rw [e2] at hsn
        rw [Zkw e2, hsn]
        simp only [Bool.not_false, cond_true, ZmU, Option.isSome_none, Bool.false_eq_true, if_false]
      | some n =>
        have hnn := Zg9 (show Zal v.l ≤ B by omega) hlk e2
        rw [e2] at hsn
        rw [Zrs e2, if_pos (by rw [hsn]; rfl)]
        simp only [cond_false, Bool.not_true]
        rw [Zfv hsn]
        simp (disch := omega) only [Za8]
        have hx : (nb : Int) + (1 + (v.tok.t.length : Int) + (v.tok.u.length : Int) + (n : Int)) = ((nb + ((1 + v.tok.t.length + v.tok.u.length) + n) : Nat) : Int) := by omega
        rw [hx]
    · simp only [Bool.not_false, Bool.not_true, cond_true, cond_false, Option.bind_some, ZgW (show v.tot ≤ B by omega), Zsk hc]
      rcases Zq9 m (Zav v.l).1 0 with ⟨f1, e2⟩ | ⟨j, x, f1, f2, e2⟩
      · have f1' : Zfx m (Zav v.l).1 0 = -1 := f1
        have fd : decide ((-1 : Int) ≥ 0) = false := rfl
        rw [f1', fd]
        simp only [cond_false]
        cases e3 : (Zav v.l).2.2
        · rw [ZsL e1 e2 e3] at hsn
          rw [hsn]
          simp only [Bool.not_false, cond_true, ZmU, Option.isSome_none, Bool.false_eq_true, if_false]
        · rw [Zsv e1 e2 e3] at hsn
          simp only [Bool.not_true, cond_false, hbel2, Option.bind_some]
          cases e4 : Zfr (lkC m) (Zav v.l).2.1 with
          | none =>
            rw [e4] at hsn
            rw [Zkw e4, hsn]
            simp only [Bool.not_false, cond_true, ZmU, Option.isSome_none, Bool.false_eq_true, if_false]
          | some n =>
            rw [e4] at hsn
            have hnn := Zg9 (show Zal (Zav v.l).2.1 ≤ B by omega) hlk e4
            rw [Zrs e4, if_pos (by rw [hsn]; rfl)]
            simp only [cond_false, Bool.not_true]
            rw [Zfv hsn, Za8 (by omega) (by omega)]
            rfl
      · have f1' : Zfx m (Zav v.l).1 0 = (j : Int) := f1.trans (by omega)
        have fd : decide ((j : Int) ≥ 0) = true := by simp
        have hxl := hlk _ _ e2
        rw [Zxc e1 e2] at hsn
        rw [f1', fd]
        simp only [cond_true, ZaA f2, Option.bind_some, Zgs (show Zal x.val ≤ B by omega)]
        rw [if_pos (by rw [hsn]; rfl)]
        simp only
        rw [Zfv hsn, Za8 (by omega) (by omega)]
        rfl
  · intro i b v b' hv hb hs
    split at hs
    · rename_i h; cases hs; exact ⟨by rw [ZaP hv, hb.1], h⟩
    · cases hs
  · intro b k' hb
    simp only [Zdq, ZiB, cond_false]
  · rw [ZxD _ _ _ _ _ (by rw [Zda]; rfl)]
    simp only [List.nil_append]
    cases e : Zfr (lkC m) l with
    | none => rw [Zkw e]; rfl
    | some n => rw [Zrs e, Zfv e]; rfl
theorem Zy6 {K : Zaa} (hK : Zcf K) : Zag U (Zac C K) 64 ⟨true, [.ty 33, .ty 22], [3, 4], ZtW⟩ :=
  Zbs (U := U) (ak := [.ty 33, .ty 22]) (rts := [3, 4]) szC ZtW fun k ih => Zjj (kf hK 64 (by decide)) _ _ _ _ _ (ZjX hK) ih (Zwc hK) (Ycy hK) (YbS (kf hK 32 (by decide))) _ fun a r h => by
    obtain ⟨h1, h2⟩ := Za9 h
    unfold ZtW at h2
    split at h2
    · rename_i h3; cases h2; exact ⟨_, Zs5 a.2 a.1 k h1 h3.1 h3.2.1 h3.2.2⟩
    · cases h2
end Go.Tev.S1
