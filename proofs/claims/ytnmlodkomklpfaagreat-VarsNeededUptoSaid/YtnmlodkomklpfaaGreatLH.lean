/- A certified evaluator for the walked functions, and their contracts, for the laws of the variables. -/
import Derived.Test.YtnmlodkomklpfaaGreatLE
import Derived.Test.YtnmlodkomklpfaaGreatChecked
import Derived.KernelRfl
import Derived.Test.YtnmlodkomklpfaaGreatLG
set_option linter.unusedVariables false
set_option linter.unusedSimpArgs false
namespace Go.Abs
open Go.Proofs
def ann : FuncId → FA
  | 2 => ⟨1, [], [], [], [0], []⟩
  | 3 => ⟨84, [0, 1, 2, 6, 7, 8, 9, 10, 11, 12, 13, 33, 42], [], [], [14, 16, 19, 23, 27, 38, 52, 57, 63, 73], []⟩
  | 4 => ⟨118, [0, 1, 4, 5, 6, 7, 8, 9, 10, 11, 12, 13, 14, 15, 32, 40, 58, 62, 77, 89, 92, 101], [], [], [16, 18, 36, 46, 54, 71, 99, 106, 116], []⟩
  | 5 => ⟨342, [0, 1, 2, 3, 4, 5, 6, 7, 8, 9, 11, 13, 14, 15, 17, 19, 20, 21, 22, 23, 24, 26, 28, 30, 31, 32, 33, 34, 35, 36, 121, 137, 140], [], [], [37, 38, 39, 42, 44, 47, 51, 55, 59, 63, 67, 70, 74, 77, 80, 84, 88, 92, 96, 100, 104, 106, 108, 109, 111, 112, 114, 128, 135, 159, 165, 169, 173, 177, 180, 184, 187, 193, 197, 200, 204, 206, 208, 214, 221, 231, 235, 236, 240, 241, 272, 278, 285, 287, 296, 298, 312, 332], []⟩
  | 6 => ⟨100, [0, 2, 3, 4, 5, 6, 7, 8, 9, 16, 24, 34, 50, 61, 93], [], [], [10, 12, 20, 43, 46, 57, 67, 89, 97], []⟩
  | 7 => ⟨87, [0, 2, 3, 4, 5, 6, 7, 8, 9, 10, 11, 18, 26, 31, 36, 85], [], [], [12, 14, 22, 36, 43, 51, 56, 82], []⟩
  | 8 => ⟨39, [0, 1, 2, 3], [], [], [4, 7, 8, 9, 11, 15, 18, 22, 26, 34, 35, 37], []⟩
  | 9 => ⟨11, [0, 2], [], [], [4, 8], []⟩
  | 10 => ⟨45, [0, 2, 3, 4, 12, 29], [], [], [20, 36], []⟩
  | 11 => ⟨42, [0, 2, 3, 11, 15, 41], [], [], [9, 23, 31, 39], []⟩
  | 12 => ⟨24, [0, 1, 4, 5, 6, 7, 11, 16], [], [], [9, 14, 20, 21], [21]⟩
  | 13 => ⟨18, [0, 2, 3, 4, 5, 9], [], [], [7, 14, 16, 17], []⟩
  | 14 => ⟨5, [0, 2], [], [], [4], []⟩
  | 15 => ⟨42, [0, 1, 4, 5, 10, 14, 41], [], [], [39], []⟩
  | 16 => ⟨28, [0, 2, 3, 5, 6, 9, 12, 13, 14, 15, 16, 23], [], [], [11, 21, 27], []⟩
  | 17 => ⟨20, [0, 1, 4, 5, 9, 18], [], [], [], []⟩
  | 18 => ⟨42, [0, 1, 4, 5, 10, 14, 41], [], [], [39], []⟩
  | 19 => ⟨9, [0, 1, 4], [], [], [7], []⟩
  | 20 => ⟨24, [0, 1, 2, 6, 7, 8], [], [], [11, 13, 21, 22], []⟩
  | 21 => ⟨24, [0, 1, 2, 6, 7, 8], [], [], [11, 13], []⟩
  | 22 => ⟨35, [0, 2, 4, 12, 13, 14, 15, 16, 33], [], [], [10, 21, 26, 31], []⟩
  | 23 => ⟨18, [0, 2, 3, 5], [], [], [9, 14], []⟩
  | 24 => ⟨12, [0, 2, 3, 4, 8], [], [], [6, 11], []⟩
  | 25 => ⟨26, [0, 1, 4, 5, 10, 14, 25], [], [], [], []⟩
  | 26 => ⟨65, [0, 1, 4, 5, 6, 7, 8, 10, 11, 19, 37, 48, 57], [6], [], [31, 45], []⟩
  | 27 => ⟨47, [0, 1, 4, 5, 6, 15], [], [], [43], []⟩
  | 28 => ⟨29, [0, 2, 3, 4, 8, 18], [], [], [17, 25], []⟩
  | 29 => ⟨35, [0, 2, 3, 7, 34], [], [], [15], []⟩
  | 30 => ⟨13, [0, 2, 5, 9, 12], [], [], [4, 7, 11], []⟩
  | 31 => ⟨33, [0, 2, 3, 4, 8, 32], [], [], [22, 31], []⟩
  | 32 => ⟨37, [0, 2, 3, 4, 8], [], [], [33], []⟩
  | 33 => ⟨17, [0, 2, 3, 6, 10, 14], [], [], [5], []⟩
  | 34 => ⟨31, [0, 1, 4, 5, 6, 7, 8, 12, 15, 28], [], [], [11, 20, 24, 26], [11, 24]⟩
  | 35 => ⟨20, [0, 2, 3, 5, 7, 8, 9, 10], [], [], [], []⟩
  | 36 => ⟨32, [0, 1, 5, 6, 9, 10, 11, 12, 16, 24], [], [], [16, 19, 30], []⟩
  | 37 => ⟨9, [0, 2, 3], [], [], [5, 7], []⟩
  | 38 => ⟨4, [0, 1, 2], [], [1], [], []⟩
  | 39 => ⟨9, [0, 1, 4], [], [], [7], []⟩
  | 40 => ⟨19, [0, 1, 2], [], [], [11, 17], []⟩
  | 41 => ⟨30, [0, 2, 3, 4, 5, 8, 9, 10, 11, 20], [], [], [], []⟩
  | 42 => ⟨25, [0, 2, 3, 5, 6, 7, 8, 9, 21], [], [], [14], []⟩
  | 43 => ⟨118, [0, 2, 3, 4, 5, 6, 7, 9, 11, 12, 13, 14, 16, 17, 18, 19, 21, 22, 23, 30, 32, 36, 39, 40, 41, 42, 53, 60, 62, 71, 72, 89, 95, 96, 97, 98, 108], [19], [], [25, 28, 58, 80, 87], [80]⟩
  | 44 => ⟨30, [0, 2, 3, 5, 6, 7, 8, 9], [], [], [25], []⟩
  | 45 => ⟨25, [0, 2, 3, 4, 5, 6, 14, 23], [], [], [10, 18], []⟩
  | 46 => ⟨21, [0, 2, 3, 4, 5, 8, 15, 19], [], [], [11, 17], []⟩
  | 47 => ⟨11, [0, 2, 3, 4, 6, 9], [], [], [], []⟩
  | 48 => ⟨16, [0, 2], [], [], [], []⟩
  | 49 => ⟨43, [0, 2, 3, 4, 5, 9, 28], [3], [], [26, 35], []⟩
  | 50 => ⟨59, [0, 1, 4, 5, 6, 10, 58], [], [], [19, 55], []⟩
  | 51 => ⟨33, [0, 2, 3, 4, 10, 24], [], [], [], []⟩
  | 52 => ⟨71, [0, 1, 4, 5, 7, 8, 9, 10, 11, 12, 13, 42, 45], [], [], [23, 49], []⟩
  | 53 => ⟨67, [0, 1, 4, 5, 7, 8, 9, 10, 11, 12, 13, 14, 15, 16, 17, 22, 51, 55, 61], [], [], [21, 38, 41, 54, 59], [38, 59]⟩
  | 54 => ⟨53, [0, 1, 4, 5, 7, 8, 9, 11, 12, 13, 14, 15, 16, 21, 44], [5], [], [20, 28, 34, 49], [28, 49]⟩
  | 55 => ⟨34, [0, 1, 2, 3], [], [], [], []⟩
  | 56 => ⟨54, [0, 1, 2, 3, 4, 5, 6, 29, 38, 43], [], [], [9, 27, 37, 53], []⟩
  | 57 => ⟨5, [0, 2], [], [], [4], []⟩
  | 58 => ⟨11, [0, 2], [], [], [9, 10], []⟩
  | 59 => ⟨14, [0, 1, 3, 5, 7, 13], [], [], [12], []⟩
  | 60 => ⟨19, [0, 1, 4, 5, 7, 8, 9, 16], [], [], [16], []⟩
  | 61 => ⟨15, [0, 2], [], [], [4], []⟩
  | 62 => ⟨52, [0, 2, 3, 5, 6, 8, 9, 10, 12, 13, 14, 15, 31, 32, 33, 34], [], [3, 9, 10], [28, 42], []⟩
  | 63 => ⟨9, [0, 2, 3, 6], [], [], [8], []⟩
  | 64 => ⟨36, [0, 2, 3, 4, 5, 6, 7, 8, 14], [4, 5], [], [10, 18, 33], []⟩
  | 65 => ⟨14, [0, 2, 3, 4, 5], [], [], [8], []⟩
  | 66 => ⟨12, [0, 2, 3, 4, 6], [], [], [], []⟩
  | 67 => ⟨17, [0, 2, 13], [], [], [], []⟩
  | 68 => ⟨25, [0, 2, 18], [], [], [4], []⟩
  | 69 => ⟨13, [0, 1, 2, 4, 5, 6, 7], [], [], [], []⟩
  | 70 => ⟨134, [0, 1, 2, 3, 8, 9, 10, 11, 12, 13, 14, 15, 16, 17, 18, 23, 29, 35, 50, 68, 72, 87, 113], [], [], [27, 33, 39, 46, 54, 72, 85, 92, 99, 121, 132], []⟩
  | 71 => ⟨8, [0, 2], [], [], [5, 7], []⟩
  | 72 => ⟨8, [0, 1, 4], [], [], [7], []⟩
  | 73 => ⟨29, [0, 1, 2, 3, 5, 9, 11, 23], [], [], [28], []⟩
  | 74 => ⟨46, [0, 2, 3, 4, 5, 9, 27, 33, 35], [], [], [], []⟩
  | 75 => ⟨28, [0, 1, 4, 7, 19], [], [], [7, 17], []⟩
  | 76 => ⟨138, [0, 1, 4, 5, 6, 7, 8, 9, 10, 14, 21, 33, 70, 79, 86, 93, 112, 121], [], [], [16, 20, 30, 47, 53, 60, 67, 73, 76, 82, 89, 100, 106, 115, 118, 123, 126], []⟩
  | 77 => ⟨67, [0, 1, 2, 3, 8, 9, 10, 11, 12, 29, 42, 44, 56], [10], [], [40, 51], []⟩
  | 78 => ⟨49, [0, 1, 2, 6, 7, 12, 30], [], [], [29], []⟩
  | 79 => ⟨56, [0, 1, 2, 6, 7, 8, 9, 10, 19, 30], [], [], [26, 55], []⟩
  | 80 => ⟨65, [0, 1, 2, 6, 7, 8, 9, 10, 15, 33, 43], [], [7], [19, 36], []⟩
  | 81 => ⟨57, [0, 1, 2, 6, 7, 8, 9, 10, 11, 12, 32, 34, 49, 51, 54], [], [9], [37, 40, 43, 48], []⟩
  | 82 => ⟨32, [0, 1, 2, 6, 7, 13], [], [], [], []⟩
  | 83 => ⟨133, [0, 1, 2, 6, 7, 8, 9, 10, 14, 32, 37, 41, 61, 65, 78, 98, 103, 116], [], [], [30, 77, 115], []⟩
  | 84 => ⟨17, [0, 1, 4], [], [], [6, 9], []⟩
  | 85 => ⟨84, [0, 1, 2, 3, 8, 9, 10, 43, 59, 64], [], [], [41, 58], []⟩
  | 86 => ⟨168, [0, 1, 2, 3, 8, 9, 10, 11, 43, 60, 65, 112, 129, 134], [], [], [42, 58, 111, 127], []⟩
  | 87 => ⟨19, [0, 2, 4, 8], [], [], [], []⟩
  | 88 => ⟨25, [0, 2, 4, 8, 14], [], [], [], []⟩
  | 89 => ⟨18, [0, 1, 4], [], [], [], []⟩
  | 90 => ⟨25, [0, 1, 2, 6], [], [], [], []⟩
  | 91 => ⟨13, [0, 2], [], [], [], []⟩
  | 92 => ⟨12, [0, 1, 4, 8], [], [], [7, 8], []⟩
  | 93 => ⟨94, [0, 1, 4, 5, 6, 7, 8, 9, 19, 31, 40, 47, 61, 75], [], [], [83], []⟩
  | 94 => ⟨13, [0, 2], [], [], [4, 7], []⟩
  | 95 => ⟨16, [0, 1, 4], [], [], [7, 13], []⟩
  | 96 => ⟨49, [0, 1, 4, 5, 6, 7, 8, 18, 36], [], [], [17, 35, 40], []⟩
  | 97 => ⟨36, [0, 1, 4, 8], [], [], [7, 12, 13, 18, 25, 29, 30, 34], []⟩
  | 98 => ⟨27, [0, 1, 4, 5, 14, 20], [], [], [8, 19, 25, 26], []⟩
  | 99 => ⟨43, [0, 1, 4, 5, 6, 7, 8, 24, 36], [], [], [12, 19, 24, 29, 35], []⟩
  | 100 => ⟨46, [0, 1, 4, 5, 6, 7, 8, 18, 23, 35], [], [], [12, 17, 23, 28, 29, 39], []⟩
  | 101 => ⟨22, [0, 2, 3, 4, 6, 8, 10, 12, 14, 16, 18, 20], [], [], [], []⟩
  | 102 => ⟨76, [0, 1, 2, 3, 8, 9, 16, 36, 52], [], [], [35, 51], []⟩
  | 103 => ⟨7, [0, 2], [], [], [5], []⟩
  | 104 => ⟨33, [0, 2], [], [], [], []⟩
  | 105 => ⟨15, [0, 1, 2, 6], [], [], [14], []⟩
  | 106 => ⟨36, [0, 1, 2, 3, 4, 10], [], [], [16, 24, 32], []⟩
  | 107 => ⟨6, [0, 2], [], [], [], []⟩
  | 108 => ⟨12, [0, 1, 4, 8], [], [], [], []⟩
  | 109 => ⟨64, [0, 1, 4, 5, 6, 7, 13, 20, 45, 58], [], [], [14, 19, 43, 51, 57, 58, 62], []⟩
  | 110 => ⟨20, [0, 2, 3], [], [], [5], []⟩
  | 111 => ⟨9, [0, 2], [], [], [], []⟩
  | 112 => ⟨71, [0, 1, 4, 5, 6, 7, 8, 9, 10, 19, 35, 48, 59, 65], [], [], [13, 24, 27, 33, 34, 39, 42, 53, 64, 65, 68], []⟩
  | 113 => ⟨138, [0, 2, 3, 4, 5, 6, 7, 8, 9, 10, 19, 25, 38, 44, 59, 72, 78, 90, 107, 128, 134], [], [], [24, 25, 37, 43, 44], []⟩
  | 114 => ⟨10, [0, 1, 4], [], [], [6, 8], []⟩
  | 115 => ⟨110, [0, 1, 4, 5, 6, 7, 8, 9, 23, 38, 53, 59, 89], [], [], [13, 40, 43, 56, 72, 80, 86, 95], []⟩
  | 116 => ⟨28, [0, 1, 2, 3, 8, 9, 18], [], [], [18], []⟩
  | 117 => ⟨3, [0], [], [], [], []⟩
  | 118 => ⟨20, [0, 2, 4, 15], [], [], [4, 9], []⟩
  | 119 => ⟨73, [0, 2, 16, 19, 25, 37], [], [], [17], []⟩
  | 120 => ⟨13, [0, 2, 8], [], [], [], []⟩
  | 121 => ⟨12, [0, 1, 4, 8], [], [], [7, 8], []⟩
  | 122 => ⟨23, [0, 2, 3, 4, 10], [], [], [19], []⟩
  | 123 => ⟨33, [0, 1, 4, 5, 15, 18], [], [], [18, 22], []⟩
  | 124 => ⟨21, [0, 2], [], [], [], []⟩
  | _ => ⟨0, [], [], [], [], []⟩
theorem A13 : (ann 13).nt = 18 ∧ (ann 13).keep = [0, 2, 3, 4, 5, 9] ∧ (ann 13).take = [] ∧ (ann 13).heapy = [] ∧ (ann 13).frz = [7, 14, 16, 17] ∧ (ann 13).lend = [] := ⟨rfl, rfl, rfl, rfl, rfl, rfl⟩
theorem A38 : (ann 38).nt = 4 ∧ (ann 38).keep = [0, 1, 2] ∧ (ann 38).take = [] ∧ (ann 38).heapy = [1] ∧ (ann 38).frz = [] ∧ (ann 38).lend = [] := ⟨rfl, rfl, rfl, rfl, rfl, rfl⟩
noncomputable def C : Ctx := ⟨Tryz.prog, ann⟩
def Zc2 (K : Zaa) : Prop := ∀ (f : Nat) a h, f ∉ [8, 26, 37, 43, 62, 73] → K f a h = none
theorem Zvk : C.ann = ann := rfl
theorem ZuL (a b : Nat) : Nat.beq a b = (a == b) := by rw [Bool.eq_iff_iff]; simp [Nat.beq_eq]
theorem ZuN (a b : Nat) : Nat.ble a b = decide (a ≤ b) := by rw [Bool.eq_iff_iff]; simp [Nat.ble_eq]
theorem Zvp (a b : Nat) : Nat.blt a b = decide (a < b) := by rw [Bool.eq_iff_iff]; simp [Nat.blt_eq]
theorem Ztk {i n : Nat} (h : i < n) : idx (i : Int) n = some i := by unfold idx; rw [if_pos ⟨by omega, by omega⟩]; simp
end Go.Abs
namespace Go.Tev.S1
open Go.Abs Go.Proofs
theorem hC (t : Nat) (h : (U.cells t).isSome = true) : C.isAgg t = some (isT t) := by
  by_cases h2 : t = 2
  · subst h2; kernel_rfl
  by_cases h3 : t = 3
  · subst h3; kernel_rfl
  by_cases h4 : t = 4
  · subst h4; kernel_rfl
  by_cases h5 : t = 5
  · subst h5; kernel_rfl
  by_cases h9 : t = 9
  · subst h9; kernel_rfl
  by_cases h22 : t = 22
  · subst h22; kernel_rfl
  by_cases h23 : t = 23
  · subst h23; kernel_rfl
  by_cases h28 : t = 28
  · subst h28; kernel_rfl
  by_cases h31 : t = 31
  · subst h31; kernel_rfl
  by_cases h39 : t = 39
  · subst h39; kernel_rfl
  by_cases h46 : t = 46
  · subst h46; kernel_rfl
  by_cases h49 : t = 49
  · subst h49; kernel_rfl
  by_cases h51 : t = 51
  · subst h51; kernel_rfl
  by_cases h60 : t = 60
  · subst h60; kernel_rfl
  by_cases h62 : t = 62
  · subst h62; kernel_rfl
  by_cases h72 : t = 72
  · subst h72; kernel_rfl
  by_cases h77 : t = 77
  · subst h77; kernel_rfl
  by_cases h78 : t = 78
  · subst h78; kernel_rfl
  by_cases h84 : t = 84
  · subst h84; kernel_rfl
  by_cases h92 : t = 92
  · subst h92; kernel_rfl
  by_cases h107 : t = 107
  · subst h107; kernel_rfl
  change (cells t).isSome = true at h
  unfold cells at h
  split at h <;> first | (exfalso; contradiction) | (cases h; done)
theorem hZ (t : Nat) (cs : List (TV U.X)) (h : U.zcells t = some cs) : ∃ z, C.zero t = some z ∧ dvL U cs = some z.cells ∧ z.cellOk = true ∧ (C.isAgg t = some true → z = .agg z.cells) := by
  by_cases h2 : t = 2
  · subst h2; cases h; exact ⟨.int .i64 0, by kernel_rfl, rfl, rfl, fun h => by rw [hC 2 rfl] at h; cases h⟩
  by_cases h3 : t = 3
  · subst h3; cases h; exact ⟨.int .i64 0, by kernel_rfl, rfl, rfl, fun h => by rw [hC 3 rfl] at h; cases h⟩
  by_cases h4 : t = 4
  · subst h4; cases h; exact ⟨.bool false, by kernel_rfl, rfl, rfl, fun h => by rw [hC 4 rfl] at h; cases h⟩
  by_cases h5 : t = 5
  · subst h5; cases h; exact ⟨.int .u8 0, by kernel_rfl, rfl, rfl, fun h => by rw [hC 5 rfl] at h; cases h⟩
  by_cases h9 : t = 9
  · subst h9; cases h; exact ⟨.str [], by kernel_rfl, rfl, rfl, fun h => by rw [hC 9 rfl] at h; cases h⟩
  by_cases h22 : t = 22
  · subst h22; cases h; exact ⟨.slc [], by kernel_rfl, rfl, rfl, fun h => by rw [hC 22 rfl] at h; cases h⟩
  by_cases h23 : t = 23
  · subst h23; cases h; exact ⟨.slc [], by kernel_rfl, rfl, rfl, fun h => by rw [hC 23 rfl] at h; cases h⟩
  by_cases h28 : t = 28
  · subst h28; cases h; exact ⟨.int .i64 0, by kernel_rfl, rfl, rfl, fun h => by rw [hC 28 rfl] at h; cases h⟩
  by_cases h31 : t = 31
  · subst h31; cases h; exact ⟨.slc [], by kernel_rfl, rfl, rfl, fun h => by rw [hC 31 rfl] at h; cases h⟩
  by_cases h39 : t = 39
  · subst h39; cases h; exact ⟨.agg [.str [], .slc []], by kernel_rfl, rfl, rfl, fun h => rfl⟩
  by_cases h46 : t = 46
  · subst h46; cases h; exact ⟨.slc [], by kernel_rfl, rfl, rfl, fun h => by rw [hC 46 rfl] at h; cases h⟩
  by_cases h49 : t = 49
  · subst h49; cases h; exact ⟨.agg [.int .u8 0, .str [], .int .i64 0, .str [], .bool false], by kernel_rfl, rfl, rfl, fun h => rfl⟩
  by_cases h51 : t = 51
  · subst h51; cases h; exact ⟨.agg [.int .u8 0, .str [], .int .i64 0, .str [], .bool false, .slc []], by kernel_rfl, rfl, rfl, fun h => rfl⟩
  by_cases h60 : t = 60
  · subst h60; cases h; exact ⟨.nilm, by kernel_rfl, rfl, rfl, fun h => by rw [hC 60 rfl] at h; cases h⟩
  by_cases h62 : t = 62
  · subst h62; cases h; exact ⟨.nilm, by kernel_rfl, rfl, rfl, fun h => by rw [hC 62 rfl] at h; cases h⟩
  by_cases h72 : t = 72
  · subst h72; cases h; exact ⟨.slc [], by kernel_rfl, rfl, rfl, fun h => by rw [hC 72 rfl] at h; cases h⟩
  by_cases h77 : t = 77
  · subst h77; cases h; exact ⟨.slc [], by kernel_rfl, rfl, rfl, fun h => by rw [hC 77 rfl] at h; cases h⟩
  by_cases h78 : t = 78
  · subst h78; cases h; exact ⟨.slc [], by kernel_rfl, rfl, rfl, fun h => by rw [hC 78 rfl] at h; cases h⟩
  by_cases h84 : t = 84
  · subst h84; cases h; exact ⟨.agg [.int .i64 0, .int .i64 0, .bool false], by kernel_rfl, rfl, rfl, fun h => rfl⟩
  by_cases h92 : t = 92
  · subst h92; cases h; exact ⟨.slc [], by kernel_rfl, rfl, rfl, fun h => by rw [hC 92 rfl] at h; cases h⟩
  by_cases h107 : t = 107
  · subst h107; cases h; exact ⟨.nilm, by kernel_rfl, rfl, rfl, fun h => by rw [hC 107 rfl] at h; cases h⟩
  change zcells t = some cs at h
  unfold zcells at h
  split at h <;> first | (exfalso; contradiction) | (cases h; done)
theorem hD (t : Nat) (h : U.dok t = true) : C.zero t = some (U.enc t (U.dflt t)) := by
  by_cases h2 : t = 2
  · subst h2; first | (cases h; done) | kernel_rfl
  by_cases h3 : t = 3
  · subst h3; first | (cases h; done) | kernel_rfl
  by_cases h4 : t = 4
  · subst h4; first | (cases h; done) | kernel_rfl
  by_cases h5 : t = 5
  · subst h5; first | (cases h; done) | kernel_rfl
  by_cases h9 : t = 9
  · subst h9; first | (cases h; done) | kernel_rfl
  by_cases h22 : t = 22
  · subst h22; first | (cases h; done) | kernel_rfl
  by_cases h23 : t = 23
  · subst h23; first | (cases h; done) | kernel_rfl
  by_cases h28 : t = 28
  · subst h28; first | (cases h; done) | kernel_rfl
  by_cases h31 : t = 31
  · subst h31; first | (cases h; done) | kernel_rfl
  by_cases h39 : t = 39
  · subst h39; first | (cases h; done) | kernel_rfl
  by_cases h46 : t = 46
  · subst h46; first | (cases h; done) | kernel_rfl
  by_cases h49 : t = 49
  · subst h49; first | (cases h; done) | kernel_rfl
  by_cases h51 : t = 51
  · subst h51; first | (cases h; done) | kernel_rfl
  by_cases h60 : t = 60
  · subst h60; first | (cases h; done) | kernel_rfl
  by_cases h62 : t = 62
  · subst h62; first | (cases h; done) | kernel_rfl
  by_cases h72 : t = 72
  · subst h72; first | (cases h; done) | kernel_rfl
  by_cases h77 : t = 77
  · subst h77; first | (cases h; done) | kernel_rfl
  by_cases h78 : t = 78
  · subst h78; first | (cases h; done) | kernel_rfl
  by_cases h84 : t = 84
  · subst h84; first | (cases h; done) | kernel_rfl
  by_cases h92 : t = 92
  · subst h92; first | (cases h; done) | kernel_rfl
  by_cases h107 : t = 107
  · subst h107; first | (cases h; done) | kernel_rfl
  change (tyB t).dok = true at h
  unfold tyB at h
  split at h <;> first | (exfalso; contradiction) | (cases h; done)
theorem hE (t : Nat) (f : U.X t → U.X t → Bool) (h : U.eqT t = some f) : C.P.eqGuardType C.P.depth t = false ∧ ∀ a b, U.enc t a = .agg (U.enc t a).cells ∧ ZmL C 100 t (U.enc t a) (U.enc t b) = some (f a b) := by
  by_cases h49 : t = 49
  · subst h49; cases h; refine ⟨by kernel_rfl, fun a b => ⟨rfl, ?_⟩⟩
    have key : ∀ b0 b1 b2 b3 b4 : Bool, (bif b0 then bif b1 then bif b2 then bif b3 then bif b4 then some true else some false else some false else some false else some false else some false) = some (b0 && b1 && b2 && b3 && b4) := by decide
    exact (show _ = _ by kernel_rfl : ZmL C 100 49 (U.enc 49 a) (U.enc 49 b) = (bif (a : Tok).k == (b : Tok).k then bif (a : Tok).t == (b : Tok).t then bif (a : Tok).n == (b : Tok).n then bif (a : Tok).u == (b : Tok).u then bif (a : Tok).f == (b : Tok).f then some true else some false else some false else some false else some false else some false)).trans (key _ _ _ _ _)
  by_cases h84 : t = 84
  · subst h84; cases h; refine ⟨by kernel_rfl, fun a b => ⟨rfl, ?_⟩⟩
    have key : ∀ b0 b1 b2 : Bool, (bif b0 then bif b1 then bif b2 then some true else some false else some false else some false) = some (b0 && b1 && b2) := by decide
    exact (show _ = _ by kernel_rfl : ZmL C 100 84 (U.enc 84 a) (U.enc 84 b) = (bif (a : Fnd).d == (b : Fnd).d then bif (a : Fnd).t == (b : Fnd).t then bif (a : Fnd).b == (b : Fnd).b then some true else some false else some false else some false)).trans (key _ _ _)
  change eqT t = some f at h
  unfold eqT at h
  split at h <;> first | (exfalso; contradiction) | (cases h; done)
theorem ok : U.Ok C where
  inj := Ydh
  prj := Yd1
  pack := YcD
  cells := Yae
  csz := Yde
  ok := YeY
  noagg := Yaf C hC
  agg := YdD C hC
  zcells := hZ
  dok := hD
  keq := Ydx
  noMap := Yaj
  eqT := hE
  bytes := Zz4
end Go.Tev.S1
namespace Go.Tev.S1
open Go.Abs Go.Proofs
abbrev T1a : Type := Int → Option Int
abbrev T1b : Type := (List Val) × Int → Option Fnd
abbrev T1c : Type := (List Val) → Option Int
abbrev T1f : Type := (List Val) × Int → Option Int
abbrev T1g : Type := (List Val) × (List Val) → Option Bool
abbrev T1h : Type := (List UInt8) × (List UInt8) → Option Bool
abbrev P1a (K : Zaa) (t : T1a) : Prop := Zap U (Zab C K) 66 ⟨true, [.ty 5], [5], t⟩
abbrev P1b (K : Zaa) (t : T1b) : Prop := Zap U (Zab C K) 52 ⟨true, [.ty 22, .ty 5], [84], t⟩
abbrev P1c (K : Zaa) (t : T1a) : Prop := Zap U (Zab C K) 47 ⟨true, [.ty 5], [5], t⟩
abbrev P1d (K : Zaa) (t : T1c) : Prop := Zap U (Zab C K) 28 ⟨true, [.ty 22], [3], t⟩
abbrev P1g (K : Zaa) (t : T1f) : Prop := Zap U (Zab C K) 27 ⟨true, [.ty 22, .ty 3], [3], t⟩
abbrev P1h (K : Zaa) (t : T1g) : Prop := Zap U (Zab C K) 15 ⟨true, [.ty 22, .ty 22], [4], t⟩
abbrev P1i (K : Zaa) (t : T1h) : Prop := Zap U (Zab C K) 89 ⟨true, [.ty 9, .ty 9], [4], t⟩
abbrev P1j (K : Zaa) (t : T1h) : Prop := Zap U (Zab C K) 72 ⟨true, [.ty 9, .ty 9], [4], t⟩
def Zgi (n : Nat) (p0 : Int) : Option Int :=
  cond (p0 == (2 : Int))
  (some (22 : Int))
  (Option.bind (some (cond (p0 == (21 : Int)) (p0 == (21 : Int)) (p0 == (23 : Int)))) fun m1 =>
  Option.bind (some (cond (p0 == (19 : Int)) (p0 == (19 : Int)) m1)) fun m2 =>
  cond m2
  (some (IntKind.u8.wrap (p0 + (1 : Int))))
  (some (0 : Int)))
abbrev ZnL : List (Nat × TCall X) := []
noncomputable abbrev ZeA : Cx := ⟨C, U, ZnL , [], fun _ => []⟩
theorem ZmG : okF (C.ann 66) Tryz.f66 1 = true := by kernel_rfl
noncomputable abbrev Zgo (n : Nat) : Zfm (ZeA ) (PX X [5]) := []
theorem Zoc (n : Nat) : ∀ a, fnL (ZeA ) true 66 Tryz.f66 [.ty 5] [5] (Zgo n) a = Zgi n a := by
  intro a
  kernel_rfl
theorem ZmJ {K : Zaa} : CallsOk (ZeA ) (Zab C K) :=
  ⟨ZaF, ZaG⟩
theorem ZjG {K : Zaa} (hK : ∀ args h, K 66 args h = none) (t : PX X (AK.tys [.ty 5]) → Option (PX X [5])) (h : ∀ a r, t a = some r → ∃ n, Zgi n a = some r) : Zap U (Zab C K) 66 ⟨true, [.ty 5], [5], t⟩ := by
  refine Zax (x := ZeA ) (ak := [.ty 5]) (rts := [5]) (dir := true) ok (ZmJ ) hK Tryz.func66 ZmG fun a r hr => ?_
  obtain ⟨n, hn⟩ := h a r hr
  exact ⟨n, Zgo n, (Zau (show Zat 0 (Zac Tryz.f66) = [] by kernel_rfl)), (Zoc n a).trans hn⟩
def Ze1 (n : Nat) (p0 : Int) : Option Int :=
  cond (p0 == (19 : Int))
  (some (20 : Int))
  (Option.bind (some (cond (p0 == (21 : Int)) (p0 == (21 : Int)) (p0 == (2 : Int)))) fun m1 =>
  cond m1
  (some (22 : Int))
  (cond (p0 == (23 : Int))
  (some (24 : Int))
  (some (0 : Int))))
abbrev ZmQ : List (Nat × TCall X) := []
noncomputable abbrev Zd5 : Cx := ⟨C, U, ZmQ , [], fun _ => []⟩
theorem Zlc : okF (C.ann 47) Tryz.f47 1 = true := by kernel_rfl
noncomputable abbrev Zfs (n : Nat) : Zfm (Zd5 ) (PX X [5]) := []
theorem Zmi (n : Nat) : ∀ a, fnL (Zd5 ) true 47 Tryz.f47 [.ty 5] [5] (Zfs n) a = Ze1 n a := by
  intro a
  kernel_rfl
theorem Zlq {K : Zaa} : CallsOk (Zd5 ) (Zab C K) :=
  ⟨ZaF, ZaG⟩
theorem ZiF {K : Zaa} (hK : ∀ args h, K 47 args h = none) (t : PX X (AK.tys [.ty 5]) → Option (PX X [5])) (h : ∀ a r, t a = some r → ∃ n, Ze1 n a = some r) : Zap U (Zab C K) 47 ⟨true, [.ty 5], [5], t⟩ := by
  refine Zax (x := Zd5 ) (ak := [.ty 5]) (rts := [5]) (dir := true) ok (Zlq ) hK Tryz.func47 Zlc fun a r hr => ?_
  obtain ⟨n, hn⟩ := h a r hr
  exact ⟨n, Zfs n, (Zau (show Zat 0 (Zac Tryz.f47) = [] by kernel_rfl)), (Zmi n a).trans hn⟩
def Ze4 (qa : T1a) (qb : T1b) {R : Type} (n : Nat) (a1 : Int) (a10 : List Val) (a11 : Int) (kx0 : (Int × Int × Bool) → (Int × Int × Bool) → Option R) (y4 : Int × Int × Bool) (y5 : Int × Int × Bool) (y12 : Int) (k : (Int × Int × Bool) → (Int × Int × Bool) → Int → Option R) : Option R :=
  cond (decide (y12 < a11))
  (Option.bind (Zeu a10 y12) fun x3 =>
  Option.bind (qa x3.tok.k) fun r4 =>
  Option.bind (some (cond (a1 != (0 : Int)) (x3.tok.k == a1) false)) fun m5 =>
  Option.bind (cond (!m5) (some (cond (r4 == (0 : Int)) (decide ((x3.l.length : Int) > (0 : Int))) false)) (some (decide ((x3.l.length : Int) > (0 : Int))))) fun m6 =>
  Option.bind (some (cond m5 true m6)) fun m7 =>
  Option.bind (some (cond m7 y4.1 y4.1)) fun m8 =>
  Option.bind (some (cond m7 y4.2.1 y4.2.1)) fun m9 =>
  Option.bind (some (cond m7 y4.2.2 y4.2.2)) fun m10 =>
  Option.bind (some (cond m7 y5.1 y5.1)) fun m11 =>
  Option.bind (some (cond m7 (IntKind.i64.wrap (y5.2.1 + (1 : Int))) (IntKind.i64.wrap (y5.2.1 + (1 : Int))))) fun m12 =>
  Option.bind (some (cond m7 true y5.2.2)) fun m13 =>
  Option.bind (some (cond m7 x3.tok.k x3.tok.k)) fun m14 =>
  Option.bind (some (cond m7 x3.tok.t x3.tok.t)) fun m15 =>
  Option.bind (some (cond m7 x3.tok.n x3.tok.n)) fun m16 =>
  Option.bind (some (cond m7 x3.tok.u x3.tok.u)) fun m17 =>
  Option.bind (some (cond m7 x3.tok.f x3.tok.f)) fun m18 =>
  Option.bind (some (cond m7 x3.l x3.l)) fun m19 =>
  cond (r4 == (0 : Int))
  (k (m8, m9, m10) (m11, m12, m13) (IntKind.i64.wrap (y12 + (1 : Int))))
  (Option.bind (qb (m19, r4)) fun r20 =>
  Option.bind (some (cond m13 true r20.b)) fun m21 =>
  k (m8, m9, m10) ((if IntKind.i64.wrap (r20.d + (1 : Int)) > m11 then IntKind.i64.wrap (r20.d + (1 : Int)) else m11), IntKind.i64.wrap ((IntKind.i64.wrap (m12 + r20.t)) + (1 : Int)), m21) (IntKind.i64.wrap (y12 + (1 : Int)))))
  (kx0 (y4.1, y4.2.1, y4.2.2) (y5.1, y5.2.1, y5.2.2))
def ZiT (qa : T1a) (qb : T1b) (n : Nat) (p0 : List Val) (p1 : Int) : Option Fnd :=
  Zoi (Ze4 qa qb n p1 p0 (p0.length : Int) (fun z1 z2 =>
  some (Fnd.mk z2.1 z2.2.1 z2.2.2))) n ((0 : Int), (0 : Int), false) ((0 : Int), (0 : Int), false) (0 : Int)
abbrev ZrH (qa : T1a) (qb : T1b) : List (Nat × TCall X) := [(66, ⟨true, [.ty 5], [5], qa⟩), (52, ⟨true, [.ty 22, .ty 5], [84], qb⟩)]
noncomputable abbrev Zc3 (qa : T1a) (qb : T1b) : Cx := ⟨C, U, ZrH qa qb, [], fun _ => []⟩
theorem ZqV : okF (C.ann 52) Tryz.f52 2 = true := by kernel_rfl
abbrev nest_look_L0_D : LD := ⟨0, [.val 1 5, .val 10 22, .val 11 2], [.box 4 [2, 2, 4], .box 5 [2, 2, 4], .val 12 2], [(0, [.box 4 [2, 2, 4], .box 5 [2, 2, 4]])], []⟩
abbrev ZdZ (qa : T1a) (qb : T1b) (n : Nat) : LG U (PX X [84]) nest_look_L0_D := fun c kx kr y k => Ze4 qa qb n c.1 c.2.1 c.2.2.1 (fun z0 z1 => kx 0 (z0, z1, ())) y.1 y.2.1 y.2.2.1 (fun z0 z1 z2 => k (z0, z1, z2, ()))
noncomputable abbrev Zd3 (qa : T1a) (qb : T1b) (n : Nat) : Zfm (Zc3 qa qb) (PX X [84]) := [(0, Zfl U nest_look_L0_D (ZdZ qa qb n) n)]
theorem ZmC (qa : T1a) (qb : T1b) (n : Nat) : ∀ c kx kr y k1, evL (Zc3 qa qb) (ann 52) (Zd3 qa qb n) 0 (Zao (Zac Tryz.f52) 0) (ZeL U nest_look_L0_D kx kr k1) (encS U nest_look_L0_D.cap nest_look_L0_D.din c y) = ZdZ qa qb n c (fun i z => kx i c z) kr y (fun y2 => k1 c y2) := by
  intro c kx kr y k1
  kernel_rfl
theorem Zry (qa : T1a) (qb : T1b) (n : Nat) : ∀ a, fnL (Zc3 qa qb) true 52 Tryz.f52 [.ty 22, .ty 5] [84] (Zd3 qa qb n) a = ZiT qa qb n a.1 a.2 := by
  intro a
  kernel_rfl
theorem Zj7 {K : Zaa} (qa : T1a) (qb : T1b) (h0 : P1a K qa) (h1 : P1b K qb) : CallsOk (Zc3 qa qb) (Zab C K) :=
  ⟨(Zah h0 (Zah h1 ZaF)), ZaG⟩
theorem Zkx {K : Zaa} (qa : T1a) (qb : T1b) (h0 : P1a K qa) (h1 : P1b K qb) (n : Nat) (b0 : Base) (bn0 : b0.nr ≤ 0) : Law (Zc3 qa qb) b0 (Zab C K) (ann 52) n (Zao (Zac Tryz.f52) 0) (Zfl U nest_look_L0_D (ZdZ qa qb n) n) :=
  Zdt (x := Zc3 qa qb) (id := 0) ok (Zj7 qa qb h0 h1) (sums := Zd3 qa qb n) (Zau (show Zat 0 (Zao (Zac Tryz.f52) 0) = [] by kernel_rfl)) nest_look_L0_D bn0 (ZdZ qa qb n) (ZmC qa qb n)
theorem Zlv {K : Zaa} (hK : ∀ args h, K 52 args h = none) (qa : T1a) (qb : T1b) (h0 : P1a K qa) (h1 : P1b K qb) (t : PX X (AK.tys [.ty 22, .ty 5]) → Option (PX X [84])) (h : ∀ a r, t a = some r → ∃ n, ZiT qa qb n a.1 a.2 = some r) : Zap U (Zab C K) 52 ⟨true, [.ty 22, .ty 5], [84], t⟩ := by
  refine Zax (x := Zc3 qa qb) (ak := [.ty 22, .ty 5]) (rts := [84]) (dir := true) ok (Zj7 qa qb h0 h1) hK Tryz.func52 ZqV fun a r hr => ?_
  obtain ⟨n, hn⟩ := h a r hr
  exact ⟨n, Zd3 qa qb n, (Zbq (ids := [0]) (by kernel_rfl) (by decide) (fun i hi => by
    simp only [List.mem_cons, List.not_mem_nil, or_false] at hi
    rcases hi with rfl
    · exact Zbg (c2 := Zao (Zac Tryz.f52) 0) (by kernel_rfl) (by kernel_rfl) (Zkx qa qb h0 h1 _ _ (Nat.le_refl _))
    )), (Zry qa qb n a).trans hn⟩
def Zhc (qb : T1b) (n : Nat) (p0 : List Val) : Option Int :=
  Option.bind (qb (p0, (0 : Int))) fun r1 =>
  cond (decide (r1.d > (16 : Int)))
  (some (20 : Int))
  (cond (decide (r1.t > (1500 : Int)))
  (some (4 : Int))
  (cond r1.b
  (some (8 : Int))
  (some (0 : Int))))
abbrev Zq0 (qb : T1b) : List (Nat × TCall X) := [(52, ⟨true, [.ty 22, .ty 5], [84], qb⟩)]
noncomputable abbrev Ze3 (qb : T1b) : Cx := ⟨C, U, Zq0 qb, [], fun _ => []⟩
theorem Zod : okF (C.ann 33) Tryz.f33 1 = true := by kernel_rfl
noncomputable abbrev ZgZ (qb : T1b) (n : Nat) : Zfm (Ze3 qb) (PX X [28]) := []
theorem Zph (qb : T1b) (n : Nat) : ∀ a, fnL (Ze3 qb) true 33 Tryz.f33 [.ty 22] [28] (ZgZ qb n) a = Zhc qb n a := by
  intro a
  kernel_rfl
theorem Zn8 {K : Zaa} (qb : T1b) (h0 : P1b K qb) : CallsOk (Ze3 qb) (Zab C K) :=
  ⟨(Zah h0 ZaF), ZaG⟩
theorem ZkD {K : Zaa} (hK : ∀ args h, K 33 args h = none) (qb : T1b) (h0 : P1b K qb) (t : PX X (AK.tys [.ty 22]) → Option (PX X [28])) (h : ∀ a r, t a = some r → ∃ n, Zhc qb n a = some r) : Zap U (Zab C K) 33 ⟨true, [.ty 22], [28], t⟩ := by
  refine Zax (x := Ze3 qb) (ak := [.ty 22]) (rts := [28]) (dir := true) ok (Zn8 qb h0) hK Tryz.func33 Zod fun a r hr => ?_
  obtain ⟨n, hn⟩ := h a r hr
  exact ⟨n, ZgZ qb n, (Zau (show Zat 0 (Zac Tryz.f33) = [] by kernel_rfl)), (Zph qb n a).trans hn⟩
def Zen (qc : T1a) (qd : T1c) {R : Type} (n : Nat) (a0 : List Val) (a2 : Int) (kx0 : Int → Option R) (y3 : Int) (y4 : Int) (k : Int → Int → Option R) : Option R :=
  cond (decide (y4 < (a0.length : Int)))
  (Option.bind (Zeu a0 y4) fun x2 =>
  Option.bind (qc x2.tok.k) fun r3 =>
  Option.bind (cond (r3 != (0 : Int)) (Zeu a0 y4) (some YbA)) fun x4 =>
  Option.bind (cond (r3 != (0 : Int)) (qd x4.l) (some (0 : Int))) fun r5 =>
  Option.bind (some (cond (r3 != (0 : Int)) (if IntKind.i64.wrap ((1 : Int) + r5) > y3 then IntKind.i64.wrap ((1 : Int) + r5) else y3) y3)) fun m6 =>
  k m6 (IntKind.i64.wrap (y4 + (1 : Int))))
  (kx0 y3)
def Zhi (qc : T1a) (qd : T1c) (n : Nat) (p0 : List Val) : Option Int :=
  Zff (Zen qc qd n p0 (0 : Int) (fun z1 =>
  some z1)) n (0 : Int) (0 : Int)
abbrev ZpN (qc : T1a) (qd : T1c) : List (Nat × TCall X) := [(47, ⟨true, [.ty 5], [5], qc⟩), (28, ⟨true, [.ty 22], [3], qd⟩)]
noncomputable abbrev Zcv (qc : T1a) (qd : T1c) : Cx := ⟨C, U, ZpN qc qd, [], fun _ => []⟩
theorem ZnH : okF (C.ann 28) Tryz.f28 1 = true := by kernel_rfl
abbrev ref04_Deep_L0_D : LD := ⟨0, [.val 0 22, .val 2 2], [.val 3 2, .val 4 2], [(0, [.val 3 2])], []⟩
abbrev Zdw (qc : T1a) (qd : T1c) (n : Nat) : LG U (PX X [3]) ref04_Deep_L0_D := fun c kx kr y k => Zen qc qd n c.1 c.2.1 (fun z0 => kx 0 (z0, ())) y.1 y.2.1 (fun z0 z1 => k (z0, z1, ()))
noncomputable abbrev Zdk (qc : T1a) (qd : T1c) (n : Nat) : Zfm (Zcv qc qd) (PX X [3]) := [(0, Zfl U ref04_Deep_L0_D (Zdw qc qd n) n)]
theorem ZkY (qc : T1a) (qd : T1c) (n : Nat) : ∀ c kx kr y k1, evL (Zcv qc qd) (ann 28) (Zdk qc qd n) 0 (Zao (Zac Tryz.f28) 0) (ZeL U ref04_Deep_L0_D kx kr k1) (encS U ref04_Deep_L0_D.cap ref04_Deep_L0_D.din c y) = Zdw qc qd n c (fun i z => kx i c z) kr y (fun y2 => k1 c y2) := by
  intro c kx kr y k1
  kernel_rfl
theorem Zp7 (qc : T1a) (qd : T1c) (n : Nat) : ∀ a, fnL (Zcv qc qd) true 28 Tryz.f28 [.ty 22] [3] (Zdk qc qd n) a = Zhi qc qd n a := by
  intro a
  kernel_rfl
theorem ZiC {K : Zaa} (qc : T1a) (qd : T1c) (h0 : P1c K qc) (h1 : P1d K qd) : CallsOk (Zcv qc qd) (Zab C K) :=
  ⟨(Zah h0 (Zah h1 ZaF)), ZaG⟩
theorem Zjq {K : Zaa} (qc : T1a) (qd : T1c) (h0 : P1c K qc) (h1 : P1d K qd) (n : Nat) (b0 : Base) (bn0 : b0.nr ≤ 0) : Law (Zcv qc qd) b0 (Zab C K) (ann 28) n (Zao (Zac Tryz.f28) 0) (Zfl U ref04_Deep_L0_D (Zdw qc qd n) n) :=
  Zdt (x := Zcv qc qd) (id := 0) ok (ZiC qc qd h0 h1) (sums := Zdk qc qd n) (Zau (show Zat 0 (Zao (Zac Tryz.f28) 0) = [] by kernel_rfl)) ref04_Deep_L0_D bn0 (Zdw qc qd n) (ZkY qc qd n)
theorem Zkr {K : Zaa} (hK : ∀ args h, K 28 args h = none) (qc : T1a) (qd : T1c) (h0 : P1c K qc) (h1 : P1d K qd) (t : PX X (AK.tys [.ty 22]) → Option (PX X [3])) (h : ∀ a r, t a = some r → ∃ n, Zhi qc qd n a = some r) : Zap U (Zab C K) 28 ⟨true, [.ty 22], [3], t⟩ := by
  refine Zax (x := Zcv qc qd) (ak := [.ty 22]) (rts := [3]) (dir := true) ok (ZiC qc qd h0 h1) hK Tryz.func28 ZnH fun a r hr => ?_
  obtain ⟨n, hn⟩ := h a r hr
  exact ⟨n, Zdk qc qd n, (Zbq (ids := [0]) (by kernel_rfl) (by decide) (fun i hi => by
    simp only [List.mem_cons, List.not_mem_nil, or_false] at hi
    rcases hi with rfl
    · exact Zbg (c2 := Zao (Zac Tryz.f28) 0) (by kernel_rfl) (by kernel_rfl) (Zjq qc qd h0 h1 _ _ (Nat.le_refl _))
    )), (Zp7 qc qd n a).trans hn⟩
def Zgb (qg : T1f) (qd : T1c) (n : Nat) (p0 : List Val) : Option Bool :=
  Option.bind (qg (p0, (300 : Int))) fun r1 =>
  Option.bind (cond (!(decide (r1 > (300 : Int)))) (qd p0) (some (0 : Int))) fun r2 =>
  Option.bind (some (cond (decide (r1 > (300 : Int))) true (decide (r2 > (40 : Int))))) fun m3 =>
  some m3
abbrev Zn7 (qg : T1f) (qd : T1c) : List (Nat × TCall X) := [(27, ⟨true, [.ty 22, .ty 3], [3], qg⟩), (28, ⟨true, [.ty 22], [3], qd⟩)]
noncomputable abbrev Zey (qg : T1f) (qd : T1c) : Cx := ⟨C, U, Zn7 qg qd, [], fun _ => []⟩
theorem Zmp : okF (C.ann 9) Tryz.f9 1 = true := by kernel_rfl
noncomputable abbrev Zgm (qg : T1f) (qd : T1c) (n : Nat) : Zfm (Zey qg qd) (PX X [4]) := []
theorem ZnD (qg : T1f) (qd : T1c) (n : Nat) : ∀ a, fnL (Zey qg qd) true 9 Tryz.f9 [.ty 22] [4] (Zgm qg qd n) a = Zgb qg qd n a := by
  intro a
  kernel_rfl
theorem Zmt {K : Zaa} (qg : T1f) (qd : T1c) (h0 : P1g K qg) (h1 : P1d K qd) : CallsOk (Zey qg qd) (Zab C K) :=
  ⟨(Zah h0 (Zah h1 ZaF)), ZaG⟩
theorem Zjv {K : Zaa} (hK : ∀ args h, K 9 args h = none) (qg : T1f) (qd : T1c) (h0 : P1g K qg) (h1 : P1d K qd) (t : PX X (AK.tys [.ty 22]) → Option (PX X [4])) (h : ∀ a r, t a = some r → ∃ n, Zgb qg qd n a = some r) : Zap U (Zab C K) 9 ⟨true, [.ty 22], [4], t⟩ := by
  refine Zax (x := Zey qg qd) (ak := [.ty 22]) (rts := [4]) (dir := true) ok (Zmt qg qd h0 h1) hK Tryz.func9 Zmp fun a r hr => ?_
  obtain ⟨n, hn⟩ := h a r hr
  exact ⟨n, Zgm qg qd n, (Zau (show Zat 0 (Zac Tryz.f9) = [] by kernel_rfl)), (ZnD qg qd n a).trans hn⟩
def ZcC (qg : T1f) {R : Type} (n : Nat) (a0 : List Val) (a1 : Int) (a4 : Int) (kx0 : Int → Option R) (y5 : Int) (y6 : Int) (k : Int → Int → Option R) : Option R :=
  Option.bind (some (cond (decide (y6 < (a0.length : Int))) (decide (y5 ≤ a1)) false)) fun m2 =>
  cond m2
  (Option.bind (Zeu a0 y6) fun x3 =>
  Option.bind (Zeu a0 y6) fun x4 =>
  Option.bind (Zeu a0 y6) fun x5 =>
  Option.bind (qg (x5.l, IntKind.i64.wrap (a1 - y5))) fun r6 =>
  k (IntKind.i64.wrap (y5 + (IntKind.i64.wrap ((IntKind.i64.wrap ((IntKind.i64.wrap ((1 : Int) + (x3.tok.t.length : Int))) + (x4.tok.u.length : Int))) + r6)))) (IntKind.i64.wrap (y6 + (1 : Int))))
  (kx0 y5)
def Zhh (qg : T1f) (n : Nat) (p0 : List Val) (p1 : Int) : Option Int :=
  Zff (ZcC qg n p0 p1 (0 : Int) (fun z1 =>
  some z1)) n (0 : Int) (0 : Int)
abbrev ZpQ (qg : T1f) : List (Nat × TCall X) := [(27, ⟨true, [.ty 22, .ty 3], [3], qg⟩)]
noncomputable abbrev Zcp (qg : T1f) : Cx := ⟨C, U, ZpQ qg, [], fun _ => []⟩
theorem ZnY : okF (C.ann 27) Tryz.f27 2 = true := by kernel_rfl
abbrev ref04_Size_L0_D : LD := ⟨0, [.val 0 22, .val 1 2, .val 4 2], [.val 5 2, .val 6 2], [(0, [.val 5 2])], []⟩
abbrev Zdv (qg : T1f) (n : Nat) : LG U (PX X [3]) ref04_Size_L0_D := fun c kx kr y k => ZcC qg n c.1 c.2.1 c.2.2.1 (fun z0 => kx 0 (z0, ())) y.1 y.2.1 (fun z0 z1 => k (z0, z1, ()))
noncomputable abbrev ZdF (qg : T1f) (n : Nat) : Zfm (Zcp qg) (PX X [3]) := [(0, Zfl U ref04_Size_L0_D (Zdv qg n) n)]
theorem Zlm (qg : T1f) (n : Nat) : ∀ c kx kr y k1, evL (Zcp qg) (ann 27) (ZdF qg n) 0 (Zao (Zac Tryz.f27) 0) (ZeL U ref04_Size_L0_D kx kr k1) (encS U ref04_Size_L0_D.cap ref04_Size_L0_D.din c y) = Zdv qg n c (fun i z => kx i c z) kr y (fun y2 => k1 c y2) := by
  intro c kx kr y k1
  kernel_rfl
theorem ZqF (qg : T1f) (n : Nat) : ∀ a, fnL (Zcp qg) true 27 Tryz.f27 [.ty 22, .ty 3] [3] (ZdF qg n) a = Zhh qg n a.1 a.2 := by
  intro a
  kernel_rfl
theorem ZiO {K : Zaa} (qg : T1f) (h0 : P1g K qg) : CallsOk (Zcp qg) (Zab C K) :=
  ⟨(Zah h0 ZaF), ZaG⟩
theorem Zjk {K : Zaa} (qg : T1f) (h0 : P1g K qg) (n : Nat) (b0 : Base) (bn0 : b0.nr ≤ 0) : Law (Zcp qg) b0 (Zab C K) (ann 27) n (Zao (Zac Tryz.f27) 0) (Zfl U ref04_Size_L0_D (Zdv qg n) n) :=
  Zdt (x := Zcp qg) (id := 0) ok (ZiO qg h0) (sums := ZdF qg n) (Zau (show Zat 0 (Zao (Zac Tryz.f27) 0) = [] by kernel_rfl)) ref04_Size_L0_D bn0 (Zdv qg n) (Zlm qg n)
theorem Zkt {K : Zaa} (hK : ∀ args h, K 27 args h = none) (qg : T1f) (h0 : P1g K qg) (t : PX X (AK.tys [.ty 22, .ty 3]) → Option (PX X [3])) (h : ∀ a r, t a = some r → ∃ n, Zhh qg n a.1 a.2 = some r) : Zap U (Zab C K) 27 ⟨true, [.ty 22, .ty 3], [3], t⟩ := by
  refine Zax (x := Zcp qg) (ak := [.ty 22, .ty 3]) (rts := [3]) (dir := true) ok (ZiO qg h0) hK Tryz.func27 ZnY fun a r hr => ?_
  obtain ⟨n, hn⟩ := h a r hr
  exact ⟨n, ZdF qg n, (Zbq (ids := [0]) (by kernel_rfl) (by decide) (fun i hi => by
    simp only [List.mem_cons, List.not_mem_nil, or_false] at hi
    rcases hi with rfl
    · exact Zbg (c2 := Zao (Zac Tryz.f27) 0) (by kernel_rfl) (by kernel_rfl) (Zjk qg h0 _ _ (Nat.le_refl _))
    )), (ZqF qg n a).trans hn⟩
def Zel (qh : T1g) {R : Type} (n : Nat) (a0 : List Val) (a1 : List Val) (kx0 : Bool → Option R) (kr : Bool → Option R) (y4 : Bool) (y5 : Int) (k : Bool → Int → Option R) : Option R :=
  cond (decide (y5 < (a0.length : Int)))
  (Option.bind (Zeu a0 y5) fun x3 =>
  Option.bind (Zeu a1 y5) fun x4 =>
  Option.bind (cond (!(!(Tok.eqb x3.tok x4.tok))) (Zeu a0 y5) (some YbA)) fun x5 =>
  Option.bind (cond (!(!(Tok.eqb x3.tok x4.tok))) (Zeu a1 y5) (some YbA)) fun x6 =>
  Option.bind (cond (!(!(Tok.eqb x3.tok x4.tok))) (qh (x5.l, x6.l)) (some false)) fun r7 =>
  Option.bind (some (cond (!(Tok.eqb x3.tok x4.tok)) true (!r7))) fun m8 =>
  cond m8
  (kr false)
  (k y4 (IntKind.i64.wrap (y5 + (1 : Int)))))
  (kx0 y4)
def Zg6 (qh : T1g) (n : Nat) (p0 : List Val) (p1 : List Val) : Option Bool :=
  cond ((p0.length : Int) != (p1.length : Int))
  (some false)
  (Zff (Zel qh n p0 p1 (fun z1 =>
  some true) (fun z2 =>
  some z2)) n false (0 : Int))
abbrev Zqy (qh : T1g) : List (Nat × TCall X) := [(15, ⟨true, [.ty 22, .ty 22], [4], qh⟩)]
noncomputable abbrev Zcl (qh : T1g) : Cx := ⟨C, U, Zqy qh, [], fun _ => []⟩
theorem ZnG : okF (C.ann 15) Tryz.f15 2 = true := by kernel_rfl
abbrev ref04_Same_L0_D : LD := ⟨0, [.val 0 22, .val 1 22], [.val 4 4, .val 5 2], [(0, [.val 4 4])], [.val 4 4]⟩
abbrev Zdh (qh : T1g) (n : Nat) : LG U (PX X [4]) ref04_Same_L0_D := fun c kx kr y k => Zel qh n c.1 c.2.1 (fun z0 => kx 0 (z0, ())) (fun z0 => kr (z0, ())) y.1 y.2.1 (fun z0 z1 => k (z0, z1, ()))
noncomputable abbrev Zdq (qh : T1g) (n : Nat) : Zfm (Zcl qh) (PX X [4]) := [(0, Zfl U ref04_Same_L0_D (Zdh qh n) n)]
theorem Zmf (qh : T1g) (n : Nat) : ∀ c kx kr y k1, evL (Zcl qh) (ann 15) (Zdq qh n) 0 (Zao (Zac Tryz.f15) 0) (ZeL U ref04_Same_L0_D kx kr k1) (encS U ref04_Same_L0_D.cap ref04_Same_L0_D.din c y) = Zdh qh n c (fun i z => kx i c z) kr y (fun y2 => k1 c y2) := by
  intro c kx kr y k1
  kernel_rfl
theorem Zpv (qh : T1g) (n : Nat) : ∀ a, fnL (Zcl qh) true 15 Tryz.f15 [.ty 22, .ty 22] [4] (Zdq qh n) a = Zg6 qh n a.1 a.2 := by
  intro a
  kernel_rfl
theorem Ziz {K : Zaa} (qh : T1g) (h0 : P1h K qh) : CallsOk (Zcl qh) (Zab C K) :=
  ⟨(Zah h0 ZaF), ZaG⟩
theorem ZjK {K : Zaa} (qh : T1g) (h0 : P1h K qh) (n : Nat) (b0 : Base) (bn0 : b0.nr ≤ 0) : Law (Zcl qh) b0 (Zab C K) (ann 15) n (Zao (Zac Tryz.f15) 0) (Zfl U ref04_Same_L0_D (Zdh qh n) n) :=
  Zdt (x := Zcl qh) (id := 0) ok (Ziz qh h0) (sums := Zdq qh n) (Zau (show Zat 0 (Zao (Zac Tryz.f15) 0) = [] by kernel_rfl)) ref04_Same_L0_D bn0 (Zdh qh n) (Zmf qh n)
theorem Zko {K : Zaa} (hK : ∀ args h, K 15 args h = none) (qh : T1g) (h0 : P1h K qh) (t : PX X (AK.tys [.ty 22, .ty 22]) → Option (PX X [4])) (h : ∀ a r, t a = some r → ∃ n, Zg6 qh n a.1 a.2 = some r) : Zap U (Zab C K) 15 ⟨true, [.ty 22, .ty 22], [4], t⟩ := by
  refine Zax (x := Zcl qh) (ak := [.ty 22, .ty 22]) (rts := [4]) (dir := true) ok (Ziz qh h0) hK Tryz.func15 ZnG fun a r hr => ?_
  obtain ⟨n, hn⟩ := h a r hr
  exact ⟨n, Zdq qh n, (Zbq (ids := [0]) (by kernel_rfl) (by decide) (fun i hi => by
    simp only [List.mem_cons, List.not_mem_nil, or_false] at hi
    rcases hi with rfl
    · exact Zbg (c2 := Zao (Zac Tryz.f15) 0) (by kernel_rfl) (by kernel_rfl) (ZjK qh h0 _ _ (Nat.le_refl _))
    )), (Zpv qh n a).trans hn⟩
def ZfK (qi : T1h) (n : Nat) (p0 : List UInt8) (p1 : List UInt8) : Option Bool :=
  Option.bind (qi (p0, p1)) fun r1 =>
  some r1
abbrev Zh4 (qi : T1h) : List (Nat × TCall X) := [(89, ⟨true, [.ty 9, .ty 9], [4], qi⟩)]
noncomputable abbrev Zb8 (qi : T1h) : Cx := ⟨C, U, Zh4 qi, [], fun _ => []⟩
theorem ZhF : okF (C.ann 72) Tryz.f72 2 = true := by kernel_rfl
noncomputable abbrev ZdL (qi : T1h) (n : Nat) : Zfm (Zb8 qi) (PX X [4]) := []
theorem ZhX (qi : T1h) (n : Nat) : ∀ a, fnL (Zb8 qi) true 72 Tryz.f72 [.ty 9, .ty 9] [4] (ZdL qi n) a = ZfK qi n a.1 a.2 := by
  intro a
  kernel_rfl
theorem ZhG {K : Zaa} (qi : T1h) (h0 : P1i K qi) : CallsOk (Zb8 qi) (Zab C K) :=
  ⟨(Zah h0 ZaF), ZaG⟩
theorem Zf0 {K : Zaa} (hK : ∀ args h, K 72 args h = none) (qi : T1h) (h0 : P1i K qi) (t : PX X (AK.tys [.ty 9, .ty 9]) → Option (PX X [4])) (h : ∀ a r, t a = some r → ∃ n, ZfK qi n a.1 a.2 = some r) : Zap U (Zab C K) 72 ⟨true, [.ty 9, .ty 9], [4], t⟩ := by
  refine Zax (x := Zb8 qi) (ak := [.ty 9, .ty 9]) (rts := [4]) (dir := true) ok (ZhG qi h0) hK Tryz.func72 ZhF fun a r hr => ?_
  obtain ⟨n, hn⟩ := h a r hr
  exact ⟨n, ZdL qi n, (Zau (show Zat 0 (Zac Tryz.f72) = [] by kernel_rfl)), (ZhX qi n a).trans hn⟩
def ZaU (n : Nat) (p0 : List UInt8) (p1 : List UInt8) : Option Bool :=
  Option.bind (cond (decide ((p0.length : Int) ≥ (p1.length : Int))) (Zmh p0 (0 : Int) (p1.length : Int)) (some [])) fun s1 =>
  Option.bind (some (cond (decide ((p0.length : Int) ≥ (p1.length : Int))) (s1 == p1) false)) fun m2 =>
  some m2
abbrev ZdJ : List (Nat × TCall X) := []
noncomputable abbrev ZaO : Cx := ⟨C, U, ZdJ , [], fun _ => []⟩
theorem Zdg : okF (C.ann 89) Tryz.f89 2 = true := by kernel_rfl
noncomputable abbrev Zby (n : Nat) : Zfm (ZaO ) (PX X [4]) := []
theorem ZdI (n : Nat) : ∀ a, fnL (ZaO ) true 89 Tryz.f89 [.ty 9, .ty 9] [4] (Zby n) a = ZaU n a.1 a.2 := by
  intro a
  kernel_rfl
theorem ZdG {K : Zaa} : CallsOk (ZaO ) (Zab C K) :=
  ⟨ZaF, ZaG⟩
theorem ZcL {K : Zaa} (hK : ∀ args h, K 89 args h = none) (t : PX X (AK.tys [.ty 9, .ty 9]) → Option (PX X [4])) (h : ∀ a r, t a = some r → ∃ n, ZaU n a.1 a.2 = some r) : Zap U (Zab C K) 89 ⟨true, [.ty 9, .ty 9], [4], t⟩ := by
  refine Zax (x := ZaO ) (ak := [.ty 9, .ty 9]) (rts := [4]) (dir := true) ok (ZdG ) hK Tryz.func89 Zdg fun a r hr => ?_
  obtain ⟨n, hn⟩ := h a r hr
  exact ⟨n, Zby n, (Zau (show Zat 0 (Zac Tryz.f89) = [] by kernel_rfl)), (ZdI n a).trans hn⟩
def ZeV (qj : T1h) (n : Nat) (p0 : List UInt8) : Option Bool :=
  Option.bind (qj (p0, [45, 45])) fun r1 =>
  Option.bind (some (cond r1 (decide ((p0.length : Int) > (2 : Int))) false)) fun m2 =>
  Option.bind (some (cond m2 (decide ((p0.length : Int) ≤ (64 : Int))) false)) fun m3 =>
  some m3
abbrev ZmI (qj : T1h) : List (Nat × TCall X) := [(72, ⟨true, [.ty 9, .ty 9], [4], qj⟩)]
noncomputable abbrev Zd0 (qj : T1h) : Cx := ⟨C, U, ZmI qj, [], fun _ => []⟩
theorem Zl9 : okF (C.ann 61) Tryz.f61 1 = true := by kernel_rfl
noncomputable abbrev ZfE (qj : T1h) (n : Nat) : Zfm (Zd0 qj) (PX X [4]) := []
theorem Zmq (qj : T1h) (n : Nat) : ∀ a, fnL (Zd0 qj) true 61 Tryz.f61 [.ty 9] [4] (ZfE qj n) a = ZeV qj n a := by
  intro a
  kernel_rfl
theorem Zla {K : Zaa} (qj : T1h) (h0 : P1j K qj) : CallsOk (Zd0 qj) (Zab C K) :=
  ⟨(Zah h0 ZaF), ZaG⟩
theorem Zil {K : Zaa} (hK : ∀ args h, K 61 args h = none) (qj : T1h) (h0 : P1j K qj) (t : PX X (AK.tys [.ty 9]) → Option (PX X [4])) (h : ∀ a r, t a = some r → ∃ n, ZeV qj n a = some r) : Zap U (Zab C K) 61 ⟨true, [.ty 9], [4], t⟩ := by
  refine Zax (x := Zd0 qj) (ak := [.ty 9]) (rts := [4]) (dir := true) ok (Zla qj h0) hK Tryz.func61 Zl9 fun a r hr => ?_
  obtain ⟨n, hn⟩ := h a r hr
  exact ⟨n, ZfE qj n, (Zau (show Zat 0 (Zac Tryz.f61) = [] by kernel_rfl)), (Zmq qj n a).trans hn⟩
def ZdX {R : Type} (n : Nat) (a2 : List UInt8) (a3 : Nat) (a8 : Nat) (a9 : Int) (kx0 : List Int → Option R) (y10 : Int) (h1 : List Int) (k : Int → List Int → Option R) : Option R :=
  cond (decide (y10 < a9))
  (Option.bind (if 0 ≤ y10 ∧ y10 < a8 ∧ y10 < h1.length then some y10.toNat else none) fun i3 =>
  Option.bind (h1[i3]?) fun e4 =>
  Option.bind (some (cond (decide (e4 ≥ (65 : Int))) (decide (e4 ≤ (90 : Int))) false)) fun m5 =>
  Option.bind (cond m5 (if 0 ≤ y10 ∧ y10 < a3 ∧ y10 < h1.length then some y10.toNat else none) (some 0)) fun i6 =>
  Option.bind (cond m5 (if i6 < h1.length then some (h1.set i6 (IntKind.u8.wrap ((IntKind.u8.wrap (e4 + (97 : Int))) - (65 : Int)))) else none) (some h1)) fun a7 =>
  Option.bind (some (cond m5 a7 h1)) fun m8 =>
  k (IntKind.i64.wrap (y10 + (1 : Int))) m8)
  (kx0 h1)
def ZfQ (n : Nat) (p0 : List UInt8) : Option (List UInt8) :=
  Zff (ZdX n [] p0.length p0.length (p0.length : Int) (fun z1 =>
  Option.bind (if p0.length ≤ z1.length then some (Zoe (z1.take p0.length)) else none) fun s2 =>
  some s2)) n (0 : Int) (Zge p0)
abbrev ZnN : List (Nat × TCall X) := []
noncomputable abbrev Zb2 : Cx := ⟨C, U, ZnN , [], fun _ => []⟩
theorem Zmo : okF (C.ann 41) Tryz.f41 1 = true := by kernel_rfl
abbrev short_small_L0_D : LD := ⟨0, [.val 2 9, .osl 3 0 5, .osl 8 0 5, .val 9 2], [.val 10 2, .harr false 5], [(0, [.harr false 5])], []⟩
abbrev Zc0 (n : Nat) : LG U (PX X [9]) short_small_L0_D := fun c kx kr y k => ZdX n c.1 c.2.1 c.2.2.1 c.2.2.2.1 (fun z0 => kx 0 (z0, ())) y.1 y.2.1 (fun z0 z1 => k (z0, z1, ()))
noncomputable abbrev ZcT (n : Nat) : Zfm (Zb2 ) (PX X [9]) := [(0, Zfl U short_small_L0_D (Zc0 n) n)]
theorem Zkm (n : Nat) : ∀ c kx kr y k1, evL (Zb2 ) (ann 41) (ZcT n) 0 (Zao (Zac Tryz.f41) 0) (ZeL U short_small_L0_D kx kr k1) (encS U short_small_L0_D.cap short_small_L0_D.din c y) = Zc0 n c (fun i z => kx i c z) kr y (fun y2 => k1 c y2) := by
  intro c kx kr y k1
  kernel_rfl
theorem ZoQ (n : Nat) : ∀ a, fnL (Zb2 ) true 41 Tryz.f41 [.ty 9] [9] (ZcT n) a = ZfQ n a := by
  intro a
  kernel_rfl
theorem ZhL {K : Zaa} : CallsOk (Zb2 ) (Zab C K) :=
  ⟨ZaF, ZaG⟩
theorem Zi7 {K : Zaa} (n : Nat) (b0 : Base) (bn0 : b0.nr ≤ 0) : Law (Zb2 ) b0 (Zab C K) (ann 41) n (Zao (Zac Tryz.f41) 0) (Zfl U short_small_L0_D (Zc0 n) n) :=
  Zdt (x := Zb2 ) (id := 0) ok (ZhL ) (sums := ZcT n) (Zau (show Zat 0 (Zao (Zac Tryz.f41) 0) = [] by kernel_rfl)) short_small_L0_D bn0 (Zc0 n) (Zkm n)
theorem ZjQ {K : Zaa} (hK : ∀ args h, K 41 args h = none) (t : PX X (AK.tys [.ty 9]) → Option (PX X [9])) (h : ∀ a r, t a = some r → ∃ n, ZfQ n a = some r) : Zap U (Zab C K) 41 ⟨true, [.ty 9], [9], t⟩ := by
  refine Zax (x := Zb2 ) (ak := [.ty 9]) (rts := [9]) (dir := true) ok (ZhL ) hK Tryz.func41 Zmo fun a r hr => ?_
  obtain ⟨n, hn⟩ := h a r hr
  exact ⟨n, ZcT n, (Zbq (ids := [0]) (by kernel_rfl) (by decide) (fun i hi => by
    simp only [List.mem_cons, List.not_mem_nil, or_false] at hi
    rcases hi with rfl
    · exact Zbg (c2 := Zao (Zac Tryz.f41) 0) (by kernel_rfl) (by kernel_rfl) (Zi7 _ _ (Nat.le_refl _))
    )), (ZoQ n a).trans hn⟩
end Go.Tev.S1
namespace Go.Tev.S1
open Go.Abs Go.Proofs
abbrev T2a : Type := (List UInt8) → Option (List UInt8)
abbrev T2b : Type := (List Val) → Option Bool
abbrev T2c : Type := (List Val) → Option Int
abbrev T2d : Type := Val → Option Bool
abbrev T2e : Type := (List Val) → Option (List Val)
abbrev T2f : Type := (List UInt8) → Option Bool
abbrev P2a (K : Zaa) (t : T2a) : Prop := Zap U (Zab C K) 41 ⟨true, [.ty 9], [9], t⟩
abbrev P2b (K : Zaa) (t : T2b) : Prop := Zap U (Zab C K) 14 ⟨true, [.ty 22], [4], t⟩
abbrev P2c (K : Zaa) (t : T2c) : Prop := Zap U (Zab C K) 60 ⟨true, [.ty 22, .fn 40], [3], t⟩
abbrev P2d (K : Zaa) (t : T2d) : Prop := Zap U (Zab C K) 40 ⟨true, [.ty 51], [4], t⟩
abbrev P2e (K : Zaa) (t : T2b) : Prop := Zap U (Zab C K) 39 ⟨true, [.ty 22, .fn 40], [4], t⟩
abbrev P2h (K : Zaa) (t : T2c) : Prop := Zap U (Zab C K) 44 ⟨true, [.ty 22], [3], t⟩
abbrev P2k (K : Zaa) (t : T2e) : Prop := Zap U (Zab C K) 67 ⟨true, [.ty 22], [22], t⟩
abbrev P2l (K : Zaa) (t : T2f) : Prop := Zap U (Zab C K) 61 ⟨true, [.ty 9], [4], t⟩
abbrev P2m (K : Zaa) (t : T2e) : Prop := Zap U (Zab C K) 68 ⟨true, [.ty 22], [22], t⟩
def ZfS (qa : T2a) (qb : T2b) (n : Nat) (p0 : Val) : Option Bool :=
  Option.bind (cond (p0.tok.k == (2 : Int)) (qa p0.tok.t) (some [])) fun r1 =>
  Option.bind (some (cond (p0.tok.k == (2 : Int)) (r1 == [118, 97, 114]) false)) fun m2 =>
  Option.bind (cond (!m2) (qb p0.l) (some false)) fun r3 =>
  Option.bind (some (cond m2 true r3)) fun m4 =>
  some m4
abbrev ZoT (qa : T2a) (qb : T2b) : List (Nat × TCall X) := [(41, ⟨true, [.ty 9], [9], qa⟩), (14, ⟨true, [.ty 22], [4], qb⟩)]
noncomputable abbrev Zer (qa : T2a) (qb : T2b) : Cx := ⟨C, U, ZoT qa qb, [], fun _ => []⟩
theorem Zmu : okF (C.ann 40) Tryz.f40 1 = true := by kernel_rfl
noncomputable abbrev Zgk (qa : T2a) (qb : T2b) (n : Nat) : Zfm (Zer qa qb) (PX X [4]) := []
theorem Zn6 (qa : T2a) (qb : T2b) (n : Nat) : ∀ a, fnL (Zer qa qb) true 40 Tryz.f40 [.ty 51] [4] (Zgk qa qb n) a = ZfS qa qb n a := by
  intro a
  kernel_rfl
theorem Zml {K : Zaa} (qa : T2a) (qb : T2b) (h0 : P2a K qa) (h1 : P2b K qb) : CallsOk (Zer qa qb) (Zab C K) :=
  ⟨(Zah h0 (Zah h1 ZaF)), ZaG⟩
theorem ZjF {K : Zaa} (hK : ∀ args h, K 40 args h = none) (qa : T2a) (qb : T2b) (h0 : P2a K qa) (h1 : P2b K qb) (t : PX X (AK.tys [.ty 51]) → Option (PX X [4])) (h : ∀ a r, t a = some r → ∃ n, ZfS qa qb n a = some r) : Zap U (Zab C K) 40 ⟨true, [.ty 51], [4], t⟩ := by
  refine Zax (x := Zer qa qb) (ak := [.ty 51]) (rts := [4]) (dir := true) ok (Zml qa qb h0 h1) hK Tryz.func40 Zmu fun a r hr => ?_
  obtain ⟨n, hn⟩ := h a r hr
  exact ⟨n, Zgk qa qb n, (Zau (show Zat 0 (Zac Tryz.f40) = [] by kernel_rfl)), (Zn6 qa qb n a).trans hn⟩
def Zaw (qc : T2c) (n : Nat) (p0 : List Val) : Option Bool :=
  Option.bind (qc p0) fun r1 =>
  some (decide (r1 ≥ (0 : Int)))
abbrev Zbt (qc : T2c) : List (Nat × TCall X) := [(60, ⟨true, [.ty 22, .fn 40], [3], qc⟩)]
noncomputable abbrev Zal (qc : T2c) : Cx := ⟨C, U, Zbt qc, [], fun _ => []⟩
theorem Zbs : okF (C.ann 39) Tryz.f39 2 = true := by kernel_rfl
noncomputable abbrev ZaH (qc : T2c) (n : Nat) : Zfm (Zal qc) (PX X [4]) := []
theorem Zbu (qc : T2c) (n : Nat) : ∀ a, fnL (Zal qc) true 39 Tryz.f39 [.ty 22, .fn 40] [4] (ZaH qc n) a = Zaw qc n a := by
  intro a
  kernel_rfl
theorem Zbp {K : Zaa} (qc : T2c) (h0 : P2c K qc) : CallsOk (Zal qc) (Zab C K) :=
  ⟨(Zah h0 ZaF), ZaG⟩
theorem Zbe {K : Zaa} (hK : ∀ args h, K 39 args h = none) (qc : T2c) (h0 : P2c K qc) (t : PX X (AK.tys [.ty 22, .fn 40]) → Option (PX X [4])) (h : ∀ a r, t a = some r → ∃ n, Zaw qc n a = some r) : Zap U (Zab C K) 39 ⟨true, [.ty 22, .fn 40], [4], t⟩ := by
  refine Zax (x := Zal qc) (ak := [.ty 22, .fn 40]) (rts := [4]) (dir := true) ok (Zbp qc h0) hK Tryz.func39 Zbs fun a r hr => ?_
  obtain ⟨n, hn⟩ := h a r hr
  exact ⟨n, ZaH qc n, (Zau (show Zat 0 (Zac Tryz.f39) = [] by kernel_rfl)), (Zbu qc n a).trans hn⟩
def Zan (qd : T2d) {R : Type} (n : Nat) (a0 : List Val) (_ : Unit) (a7 : Int) (kx0 : Int → Option R) (kr : Int → Option R) (y4 : Int) (y8 : Int) (k : Int → Int → Option R) : Option R :=
  cond (decide (y8 < a7))
  (Option.bind (Zeu a0 y8) fun x3 =>
  Option.bind (qd (Val.mk x3.tok x3.l)) fun r4 =>
  cond r4
  (kr y8)
  (k y4 (IntKind.i64.wrap (y8 + (1 : Int)))))
  (kx0 y4)
def Zas (qd : T2d) (n : Nat) (p0 : List Val) : Option Int :=
  Zff (Zan qd n p0 () (p0.length : Int) (fun z1 =>
  some (-1 : Int)) (fun z2 =>
  some z2)) n (0 : Int) (0 : Int)
abbrev ZbH (qd : T2d) : List (Nat × TCall X) := [(40, ⟨true, [.ty 51], [4], qd⟩)]
noncomputable abbrev Zaf (qd : T2d) : Cx := ⟨C, U, ZbH qd, [], fun _ => []⟩
theorem ZbC : okF (C.ann 60) Tryz.f60 2 = true := by kernel_rfl
abbrev slices_IndexFuncapi_Value_api_Value_short_Var_1_L0_D : LD := ⟨0, [.val 0 22, .fn 1 40, .val 7 2], [.val 4 2, .val 8 2], [(0, [.val 4 2])], [.val 4 3]⟩
abbrev Zaj (qd : T2d) (n : Nat) : LG U (PX X [3]) slices_IndexFuncapi_Value_api_Value_short_Var_1_L0_D := fun c kx kr y k => Zan qd n c.1 c.2.1 c.2.2.1 (fun z0 => kx 0 (z0, ())) (fun z0 => kr (z0, ())) y.1 y.2.1 (fun z0 z1 => k (z0, z1, ()))
noncomputable abbrev Zak (qd : T2d) (n : Nat) : Zfm (Zaf qd) (PX X [3]) := [(0, Zfl U slices_IndexFuncapi_Value_api_Value_short_Var_1_L0_D (Zaj qd n) n)]
theorem Zbv (qd : T2d) (n : Nat) : ∀ c kx kr y k1, evL (Zaf qd) (ann 60) (Zak qd n) 0 (Zao (Zac Tryz.f60) 0) (ZeL U slices_IndexFuncapi_Value_api_Value_short_Var_1_L0_D kx kr k1) (encS U slices_IndexFuncapi_Value_api_Value_short_Var_1_L0_D.cap slices_IndexFuncapi_Value_api_Value_short_Var_1_L0_D.din c y) = Zaj qd n c (fun i z => kx i c z) kr y (fun y2 => k1 c y2) := by
  intro c kx kr y k1
  kernel_rfl
theorem ZbG (qd : T2d) (n : Nat) : ∀ a, fnL (Zaf qd) true 60 Tryz.f60 [.ty 22, .fn 40] [3] (Zak qd n) a = Zas qd n a := by
  intro a
  kernel_rfl
theorem ZaP {K : Zaa} (qd : T2d) (h0 : P2d K qd) : CallsOk (Zaf qd) (Zab C K) :=
  ⟨(Zah h0 ZaF), ZaG⟩
theorem Zbj {K : Zaa} (qd : T2d) (h0 : P2d K qd) (n : Nat) (b0 : Base) (bn0 : b0.nr ≤ 0) : Law (Zaf qd) b0 (Zab C K) (ann 60) n (Zao (Zac Tryz.f60) 0) (Zfl U slices_IndexFuncapi_Value_api_Value_short_Var_1_L0_D (Zaj qd n) n) :=
  Zdt (x := Zaf qd) (id := 0) ok (ZaP qd h0) (sums := Zak qd n) (Zau (show Zat 0 (Zao (Zac Tryz.f60) 0) = [] by kernel_rfl)) slices_IndexFuncapi_Value_api_Value_short_Var_1_L0_D bn0 (Zaj qd n) (Zbv qd n)
theorem Zbr {K : Zaa} (hK : ∀ args h, K 60 args h = none) (qd : T2d) (h0 : P2d K qd) (t : PX X (AK.tys [.ty 22, .fn 40]) → Option (PX X [3])) (h : ∀ a r, t a = some r → ∃ n, Zas qd n a = some r) : Zap U (Zab C K) 60 ⟨true, [.ty 22, .fn 40], [3], t⟩ := by
  refine Zax (x := Zaf qd) (ak := [.ty 22, .fn 40]) (rts := [3]) (dir := true) ok (ZaP qd h0) hK Tryz.func60 ZbC fun a r hr => ?_
  obtain ⟨n, hn⟩ := h a r hr
  exact ⟨n, Zak qd n, (Zbq (ids := [0]) (by kernel_rfl) (by decide) (fun i hi => by
    simp only [List.mem_cons, List.not_mem_nil, or_false] at hi
    rcases hi with rfl
    · exact Zbg (c2 := Zao (Zac Tryz.f60) 0) (by kernel_rfl) (by kernel_rfl) (Zbj qd h0 _ _ (Nat.le_refl _))
    )), (ZbG qd n a).trans hn⟩
def Zlj (qe : T2b) (n : Nat) (p0 : List Val) : Option Bool :=
  Option.bind (qe p0) fun r1 =>
  some r1
abbrev Zru (qe : T2b) : List (Nat × TCall X) := [(39, ⟨true, [.ty 22, .fn 40], [4], qe⟩)]
noncomputable abbrev ZfT (qe : T2b) : Cx := ⟨C, U, Zru qe, [], fun _ => []⟩
theorem ZqJ : okF (C.ann 14) Tryz.f14 1 = true := by kernel_rfl
noncomputable abbrev ZhJ (qe : T2b) (n : Nat) : Zfm (ZfT qe) (PX X [4]) := []
theorem Zst (qe : T2b) (n : Nat) : ∀ a, fnL (ZfT qe) true 14 Tryz.f14 [.ty 22] [4] (ZhJ qe n) a = Zlj qe n a := by
  intro a
  kernel_rfl
theorem ZpI {K : Zaa} (qe : T2b) (h0 : P2e K qe) : CallsOk (ZfT qe) (Zab C K) :=
  ⟨(Zah h0 ZaF), ZaG⟩
theorem ZlO {K : Zaa} (hK : ∀ args h, K 14 args h = none) (qe : T2b) (h0 : P2e K qe) (t : PX X (AK.tys [.ty 22]) → Option (PX X [4])) (h : ∀ a r, t a = some r → ∃ n, Zlj qe n a = some r) : Zap U (Zab C K) 14 ⟨true, [.ty 22], [4], t⟩ := by
  refine Zax (x := ZfT qe) (ak := [.ty 22]) (rts := [4]) (dir := true) ok (ZpI qe h0) hK Tryz.func14 ZqJ fun a r hr => ?_
  obtain ⟨n, hn⟩ := h a r hr
  exact ⟨n, ZhJ qe n, (Zau (show Zat 0 (Zac Tryz.f14) = [] by kernel_rfl)), (Zst qe n a).trans hn⟩
def ZdW (qh : T2c) {R : Type} (n : Nat) (a2 : Int) (a6 : List Val) (a7 : Int) (kx0 : Int → Option R) (y3 : Int) (y8 : Int) (k : Int → Int → Option R) : Option R :=
  cond (decide (y8 < a7))
  (Option.bind (Zeu a6 y8) fun x2 =>
  Option.bind (qh x2.l) fun r3 =>
  k (IntKind.i64.wrap (y3 + (IntKind.i64.wrap ((IntKind.i64.wrap ((IntKind.i64.wrap ((1 : Int) + (x2.tok.t.length : Int))) + (x2.tok.u.length : Int))) + r3)))) (IntKind.i64.wrap (y8 + (1 : Int))))
  (kx0 y3)
def Zgc (qh : T2c) (n : Nat) (p0 : List Val) : Option Int :=
  Zff (ZdW qh n (0 : Int) p0 (p0.length : Int) (fun z1 =>
  some z1)) n (0 : Int) (0 : Int)
abbrev ZoG (qh : T2c) : List (Nat × TCall X) := [(44, ⟨true, [.ty 22], [3], qh⟩)]
noncomputable abbrev Zb9 (qh : T2c) : Cx := ⟨C, U, ZoG qh, [], fun _ => []⟩
theorem Zmv : okF (C.ann 44) Tryz.f44 1 = true := by kernel_rfl
abbrev vars_length_L0_D : LD := ⟨0, [.val 2 2, .val 6 22, .val 7 2], [.val 3 2, .val 8 2], [(0, [.val 3 2])], []⟩
abbrev ZcQ (qh : T2c) (n : Nat) : LG U (PX X [3]) vars_length_L0_D := fun c kx kr y k => ZdW qh n c.1 c.2.1 c.2.2.1 (fun z0 => kx 0 (z0, ())) y.1 y.2.1 (fun z0 z1 => k (z0, z1, ()))
noncomputable abbrev ZcZ (qh : T2c) (n : Nat) : Zfm (Zb9 qh) (PX X [3]) := [(0, Zfl U vars_length_L0_D (ZcQ qh n) n)]
theorem ZkA (qh : T2c) (n : Nat) : ∀ c kx kr y k1, evL (Zb9 qh) (ann 44) (ZcZ qh n) 0 (Zao (Zac Tryz.f44) 0) (ZeL U vars_length_L0_D kx kr k1) (encS U vars_length_L0_D.cap vars_length_L0_D.din c y) = ZcQ qh n c (fun i z => kx i c z) kr y (fun y2 => k1 c y2) := by
  intro c kx kr y k1
  kernel_rfl
theorem ZnW (qh : T2c) (n : Nat) : ∀ a, fnL (Zb9 qh) true 44 Tryz.f44 [.ty 22] [3] (ZcZ qh n) a = Zgc qh n a := by
  intro a
  kernel_rfl
theorem ZhS {K : Zaa} (qh : T2c) (h0 : P2h K qh) : CallsOk (Zb9 qh) (Zab C K) :=
  ⟨(Zah h0 ZaF), ZaG⟩
theorem Zi3 {K : Zaa} (qh : T2c) (h0 : P2h K qh) (n : Nat) (b0 : Base) (bn0 : b0.nr ≤ 0) : Law (Zb9 qh) b0 (Zab C K) (ann 44) n (Zao (Zac Tryz.f44) 0) (Zfl U vars_length_L0_D (ZcQ qh n) n) :=
  Zdt (x := Zb9 qh) (id := 0) ok (ZhS qh h0) (sums := ZcZ qh n) (Zau (show Zat 0 (Zao (Zac Tryz.f44) 0) = [] by kernel_rfl)) vars_length_L0_D bn0 (ZcQ qh n) (ZkA qh n)
theorem Zji {K : Zaa} (hK : ∀ args h, K 44 args h = none) (qh : T2c) (h0 : P2h K qh) (t : PX X (AK.tys [.ty 22]) → Option (PX X [3])) (h : ∀ a r, t a = some r → ∃ n, Zgc qh n a = some r) : Zap U (Zab C K) 44 ⟨true, [.ty 22], [3], t⟩ := by
  refine Zax (x := Zb9 qh) (ak := [.ty 22]) (rts := [3]) (dir := true) ok (ZhS qh h0) hK Tryz.func44 Zmv fun a r hr => ?_
  obtain ⟨n, hn⟩ := h a r hr
  exact ⟨n, ZcZ qh n, (Zbq (ids := [0]) (by kernel_rfl) (by decide) (fun i hi => by
    simp only [List.mem_cons, List.not_mem_nil, or_false] at hi
    rcases hi with rfl
    · exact Zbg (c2 := Zao (Zac Tryz.f44) 0) (by kernel_rfl) (by kernel_rfl) (Zi3 qh h0 _ _ (Nat.le_refl _))
    )), (ZnW qh n a).trans hn⟩
def Zhg (n : Nat) (p0 : Val) : Option Bool :=
  Option.bind (some (cond (p0.tok.k == (2 : Int)) ((p0.tok.t.length : Int) == (3 : Int)) false)) fun m1 =>
  Option.bind (cond m1 (Zeu p0.tok.t (0 : Int)) (some 0)) fun b2 =>
  Option.bind (some (cond m1 ((IntKind.u8.wrap (BitVec.ofInt (IntKind.u8).bits (b2.toNat : Int) ||| BitVec.ofInt (IntKind.u8).bits (32 : Int)).toNat) == (118 : Int)) false)) fun m3 =>
  Option.bind (cond m3 (Zeu p0.tok.t (1 : Int)) (some 0)) fun b4 =>
  Option.bind (some (cond m3 ((IntKind.u8.wrap (BitVec.ofInt (IntKind.u8).bits (b4.toNat : Int) ||| BitVec.ofInt (IntKind.u8).bits (32 : Int)).toNat) == (97 : Int)) false)) fun m5 =>
  Option.bind (cond m5 (Zeu p0.tok.t (2 : Int)) (some 0)) fun b6 =>
  Option.bind (some (cond m5 ((IntKind.u8.wrap (BitVec.ofInt (IntKind.u8).bits (b6.toNat : Int) ||| BitVec.ofInt (IntKind.u8).bits (32 : Int)).toNat) == (114 : Int)) false)) fun m7 =>
  some m7
abbrev ZpJ : List (Nat × TCall X) := []
noncomputable abbrev Zfb : Cx := ⟨C, U, ZpJ , [], fun _ => []⟩
theorem ZnJ : okF (C.ann 55) Tryz.f55 1 = true := by kernel_rfl
noncomputable abbrev ZgR (n : Nat) : Zfm (Zfb ) (PX X [4]) := []
theorem Zqd (n : Nat) : ∀ a, fnL (Zfb ) true 55 Tryz.f55 [.ty 51] [4] (ZgR n) a = Zhg n a := by
  intro a
  kernel_rfl
theorem Zot {K : Zaa} : CallsOk (Zfb ) (Zab C K) :=
  ⟨ZaF, ZaG⟩
theorem Zku {K : Zaa} (hK : ∀ args h, K 55 args h = none) (t : PX X (AK.tys [.ty 51]) → Option (PX X [4])) (h : ∀ a r, t a = some r → ∃ n, Zhg n a = some r) : Zap U (Zab C K) 55 ⟨true, [.ty 51], [4], t⟩ := by
  refine Zax (x := Zfb ) (ak := [.ty 51]) (rts := [4]) (dir := true) ok (Zot ) hK Tryz.func55 ZnJ fun a r hr => ?_
  obtain ⟨n, hn⟩ := h a r hr
  exact ⟨n, ZgR n, (Zau (show Zat 0 (Zac Tryz.f55) = [] by kernel_rfl)), (Zqd n a).trans hn⟩
def Zfj {R : Type} (n : Nat) (a2 : List Val) (kx0 : List Val → Option R) (y0 : List Val) (k : List Val → Option R) : Option R :=
  Option.bind (cond (decide ((y0.length : Int) > (0 : Int))) (Zeu y0 (0 : Int)) (some YbA)) fun x2 =>
  Option.bind (some (cond (decide ((y0.length : Int) > (0 : Int))) (x2.tok.k == (13 : Int)) false)) fun m3 =>
  cond m3
  (Option.bind (Zmh y0 (1 : Int) (y0.length : Int)) fun s4 =>
  k s4)
  (kx0 y0)
def Zf4 (n : Nat) (p0 : List Val) : Option (List Val) :=
  Zvn (Zfj n [] (fun z1 =>
  some z1)) n p0
abbrev ZnR : List (Nat × TCall X) := []
noncomputable abbrev Zb5 : Cx := ⟨C, U, ZnR , [], fun _ => []⟩
theorem ZmD : okF (C.ann 67) Tryz.f67 1 = true := by kernel_rfl
abbrev vars_spaces_L0_D : LD := ⟨0, [.val 2 22], [.val 0 22], [(0, [.val 0 22])], []⟩
abbrev ZcR (n : Nat) : LG U (PX X [22]) vars_spaces_L0_D := fun c kx kr y k => Zfj n c.1 (fun z0 => kx 0 (z0, ())) y.1 (fun z0 => k (z0, ()))
noncomputable abbrev ZcU (n : Nat) : Zfm (Zb5 ) (PX X [22]) := [(0, Zfl U vars_spaces_L0_D (ZcR n) n)]
theorem Zks (n : Nat) : ∀ c kx kr y k1, evL (Zb5 ) (ann 67) (ZcU n) 0 (Zao (Zac Tryz.f67) 0) (ZeL U vars_spaces_L0_D kx kr k1) (encS U vars_spaces_L0_D.cap vars_spaces_L0_D.din c y) = ZcR n c (fun i z => kx i c z) kr y (fun y2 => k1 c y2) := by
  intro c kx kr y k1
  kernel_rfl
theorem Zpa (n : Nat) : ∀ a, fnL (Zb5 ) true 67 Tryz.f67 [.ty 22] [22] (ZcU n) a = Zf4 n a := by
  intro a
  kernel_rfl
theorem ZhM {K : Zaa} : CallsOk (Zb5 ) (Zab C K) :=
  ⟨ZaF, ZaG⟩
theorem Zis {K : Zaa} (n : Nat) (b0 : Base) (bn0 : b0.nr ≤ 0) : Law (Zb5 ) b0 (Zab C K) (ann 67) n (Zao (Zac Tryz.f67) 0) (Zfl U vars_spaces_L0_D (ZcR n) n) :=
  Zdt (x := Zb5 ) (id := 0) ok (ZhM ) (sums := ZcU n) (Zau (show Zat 0 (Zao (Zac Tryz.f67) 0) = [] by kernel_rfl)) vars_spaces_L0_D bn0 (ZcR n) (Zks n)
theorem Zjs {K : Zaa} (hK : ∀ args h, K 67 args h = none) (t : PX X (AK.tys [.ty 22]) → Option (PX X [22])) (h : ∀ a r, t a = some r → ∃ n, Zf4 n a = some r) : Zap U (Zab C K) 67 ⟨true, [.ty 22], [22], t⟩ := by
  refine Zax (x := Zb5 ) (ak := [.ty 22]) (rts := [22]) (dir := true) ok (ZhM ) hK Tryz.func67 ZmD fun a r hr => ?_
  obtain ⟨n, hn⟩ := h a r hr
  exact ⟨n, ZcU n, (Zbq (ids := [0]) (by kernel_rfl) (by decide) (fun i hi => by
    simp only [List.mem_cons, List.not_mem_nil, or_false] at hi
    rcases hi with rfl
    · exact Zbg (c2 := Zao (Zac Tryz.f67) 0) (by kernel_rfl) (by kernel_rfl) (Zis _ _ (Nat.le_refl _))
    )), (Zpa n a).trans hn⟩
def ZgQ (qk : T2e) {R : Type} (n : Nat) (a2 : List Val) (kx0 : List Val → Option R) (y0 : List Val) (k : List Val → Option R) : Option R :=
  Option.bind (cond (decide ((y0.length : Int) > (0 : Int))) (Zeu y0 (IntKind.i64.wrap ((y0.length : Int) - (1 : Int)))) (some YbA)) fun x3 =>
  Option.bind (some (cond (decide ((y0.length : Int) > (0 : Int))) (x3.tok.k == (13 : Int)) false)) fun m4 =>
  cond m4
  (Option.bind (Zmh y0 (0 : Int) (IntKind.i64.wrap ((y0.length : Int) - (1 : Int)))) fun s5 =>
  k s5)
  (kx0 y0)
def Zjd (qk : T2e) (n : Nat) (p0 : List Val) : Option (List Val) :=
  Option.bind (qk p0) fun r1 =>
  Zvn (ZgQ qk n [] (fun z2 =>
  some z2)) n r1
abbrev ZrW (qk : T2e) : List (Nat × TCall X) := [(67, ⟨true, [.ty 22], [22], qk⟩)]
noncomputable abbrev Zc5 (qk : T2e) : Cx := ⟨C, U, ZrW qk, [], fun _ => []⟩
theorem Zrl : okF (C.ann 68) Tryz.f68 1 = true := by kernel_rfl
abbrev vars_trim_L0_D : LD := ⟨0, [.val 2 22], [.val 0 22], [(0, [.val 0 22])], []⟩
abbrev ZdY (qk : T2e) (n : Nat) : LG U (PX X [22]) vars_trim_L0_D := fun c kx kr y k => ZgQ qk n c.1 (fun z0 => kx 0 (z0, ())) y.1 (fun z0 => k (z0, ()))
noncomputable abbrev Zd1 (qk : T2e) (n : Nat) : Zfm (Zc5 qk) (PX X [22]) := [(0, Zfl U vars_trim_L0_D (ZdY qk n) n)]
theorem ZmK (qk : T2e) (n : Nat) : ∀ c kx kr y k1, evL (Zc5 qk) (ann 68) (Zd1 qk n) 0 (Zao (Zac Tryz.f68) 0) (ZeL U vars_trim_L0_D kx kr k1) (encS U vars_trim_L0_D.cap vars_trim_L0_D.din c y) = ZdY qk n c (fun i z => kx i c z) kr y (fun y2 => k1 c y2) := by
  intro c kx kr y k1
  kernel_rfl
theorem Zsv (qk : T2e) (n : Nat) : ∀ a, fnL (Zc5 qk) true 68 Tryz.f68 [.ty 22] [22] (Zd1 qk n) a = Zjd qk n a := by
  intro a
  kernel_rfl
theorem Zj4 {K : Zaa} (qk : T2e) (h0 : P2k K qk) : CallsOk (Zc5 qk) (Zab C K) :=
  ⟨(Zah h0 ZaF), ZaG⟩
theorem Zkw {K : Zaa} (qk : T2e) (h0 : P2k K qk) (n : Nat) (b0 : Base) (bn0 : b0.nr ≤ 0) : Law (Zc5 qk) b0 (Zab C K) (ann 68) n (Zao (Zac Tryz.f68) 0) (Zfl U vars_trim_L0_D (ZdY qk n) n) :=
  Zdt (x := Zc5 qk) (id := 0) ok (Zj4 qk h0) (sums := Zd1 qk n) (Zau (show Zat 0 (Zao (Zac Tryz.f68) 0) = [] by kernel_rfl)) vars_trim_L0_D bn0 (ZdY qk n) (ZmK qk n)
theorem Zlb {K : Zaa} (hK : ∀ args h, K 68 args h = none) (qk : T2e) (h0 : P2k K qk) (t : PX X (AK.tys [.ty 22]) → Option (PX X [22])) (h : ∀ a r, t a = some r → ∃ n, Zjd qk n a = some r) : Zap U (Zab C K) 68 ⟨true, [.ty 22], [22], t⟩ := by
  refine Zax (x := Zc5 qk) (ak := [.ty 22]) (rts := [22]) (dir := true) ok (Zj4 qk h0) hK Tryz.func68 Zrl fun a r hr => ?_
  obtain ⟨n, hn⟩ := h a r hr
  exact ⟨n, Zd1 qk n, (Zbq (ids := [0]) (by kernel_rfl) (by decide) (fun i hi => by
    simp only [List.mem_cons, List.not_mem_nil, or_false] at hi
    rcases hi with rfl
    · exact Zbg (c2 := Zao (Zac Tryz.f68) 0) (by kernel_rfl) (by kernel_rfl) (Zkw qk h0 _ _ (Nat.le_refl _))
    )), (Zsv qk n a).trans hn⟩
def ZhA (qk : T2e) (ql : T2f) (qm : T2e) (n : Nat) (p0 : Val) : Option ((List UInt8) × (List Val) × Bool) :=
  Option.bind (qk p0.l) fun r1 =>
  Option.bind (cond (!((r1.length : Int) == (0 : Int))) (Zeu r1 (0 : Int)) (some YbA)) fun x2 =>
  Option.bind (some (cond ((r1.length : Int) == (0 : Int)) true (x2.tok.k != (1 : Int)))) fun m3 =>
  Option.bind (cond (!m3) (Zeu r1 (0 : Int)) (some YbA)) fun x4 =>
  Option.bind (cond (!m3) (ql x4.tok.t) (some false)) fun r5 =>
  Option.bind (some (cond m3 true (!r5))) fun m6 =>
  cond m6
  (some ([], [], false))
  (Option.bind (Zeu r1 (0 : Int)) fun x7 =>
  Option.bind (Zmh r1 (1 : Int) (r1.length : Int)) fun s8 =>
  Option.bind (qk s8) fun r9 =>
  cond ((r9.length : Int) == (0 : Int))
  (some (x7.tok.t, [], false))
  (Option.bind (Zeu r9 (0 : Int)) fun x10 =>
  cond (x10.tok.k == (18 : Int))
  (Option.bind (Zmh r9 (1 : Int) (r9.length : Int)) fun s11 =>
  Option.bind (qm s11) fun r12 =>
  some (x7.tok.t, r12, true))
  (some ([], [], false))))
abbrev Zrb (qk : T2e) (ql : T2f) (qm : T2e) : List (Nat × TCall X) := [(67, ⟨true, [.ty 22], [22], qk⟩), (61, ⟨true, [.ty 9], [4], ql⟩), (68, ⟨true, [.ty 22], [22], qm⟩)]
noncomputable abbrev ZeZ (qk : T2e) (ql : T2f) (qm : T2e) : Cx := ⟨C, U, Zrb qk ql qm, [], fun _ => []⟩
theorem Zo3 : okF (C.ann 56) Tryz.f56 1 = true := by kernel_rfl
noncomputable abbrev ZgY (qk : T2e) (ql : T2f) (qm : T2e) (n : Nat) : Zfm (ZeZ qk ql qm) (PX X [9, 22, 4]) := []
theorem ZqE (qk : T2e) (ql : T2f) (qm : T2e) (n : Nat) : ∀ a, fnL (ZeZ qk ql qm) true 56 Tryz.f56 [.ty 51] [9, 22, 4] (ZgY qk ql qm n) a = ZhA qk ql qm n a := by
  intro a
  kernel_rfl
theorem Znz {K : Zaa} (qk : T2e) (ql : T2f) (qm : T2e) (h0 : P2k K qk) (h1 : P2l K ql) (h2 : P2m K qm) : CallsOk (ZeZ qk ql qm) (Zab C K) :=
  ⟨(Zah h0 (Zah h1 (Zah h2 ZaF))), ZaG⟩
theorem Zkn {K : Zaa} (hK : ∀ args h, K 56 args h = none) (qk : T2e) (ql : T2f) (qm : T2e) (h0 : P2k K qk) (h1 : P2l K ql) (h2 : P2m K qm) (t : PX X (AK.tys [.ty 51]) → Option (PX X [9, 22, 4])) (h : ∀ a r, t a = some r → ∃ n, ZhA qk ql qm n a = some r) : Zap U (Zab C K) 56 ⟨true, [.ty 51], [9, 22, 4], t⟩ := by
  refine Zax (x := ZeZ qk ql qm) (ak := [.ty 51]) (rts := [9, 22, 4]) (dir := true) ok (Znz qk ql qm h0 h1 h2) hK Tryz.func56 Zo3 fun a r hr => ?_
  obtain ⟨n, hn⟩ := h a r hr
  exact ⟨n, ZgY qk ql qm n, (Zau (show Zat 0 (Zac Tryz.f56) = [] by kernel_rfl)), (ZqE qk ql qm n a).trans hn⟩
end Go.Tev.S1
namespace Go.Tev.S1
open Go.Abs Go.Proofs
def Zqq (l : List Val) : Option Int := if Zaq l ≤ B then some (Zaq l : Int) else none
theorem ZuE {l : List Val} {r : Int} (h : Zqq l = some r) : Zaq l ≤ B ∧ r = Zaq l := by
  unfold Zqq at h
  split at h
  · rename_i h1; exact ⟨h1, (Option.some.inj h).symm⟩
  · cases h
theorem ZnA {l : List Val} (h : Zaq l ≤ B) : Zqq l = some (Zaq l : Int) := if_pos h
end Go.Tev.S1
namespace Go.Tev.S1
open Go.Abs Go.Proofs
theorem ZrQ (k : Int) : Zgi 0 k = some (Za9 k) := by
  unfold Zgi Za9
  by_cases h1 : k = 2
  · simp [h1]
  · by_cases h2 : k = 21
    · rw [h2]; rfl
    · by_cases h3 : k = 19
      · rw [h3]; rfl
      · by_cases h4 : k = 23
        · rw [h4]; rfl
        · have e1 : (k == 2) = false := by simpa using h1
          have e2 : (k == 21) = false := by simpa using h2
          have e3 : (k == 19) = false := by simpa using h3
          have e4 : (k == 23) = false := by simpa using h4
          simp [h1, h2, h3, h4, e1, e2, e3, e4]
theorem Zr8 (k : Int) : Ze1 0 k = some (Za9 k) := by
  unfold Ze1 Za9
  by_cases h1 : k = 2
  · rw [h1]; rfl
  · by_cases h2 : k = 21
    · rw [h2]; rfl
    · by_cases h3 : k = 19
      · rw [h3]; rfl
      · by_cases h4 : k = 23
        · rw [h4]; rfl
        · have e1 : (k == 2) = false := by simpa using h1
          have e2 : (k == 21) = false := by simpa using h2
          have e3 : (k == 19) = false := by simpa using h3
          have e4 : (k == 23) = false := by simpa using h4
          simp [h1, h2, h3, h4, e1, e2, e3, e4]
theorem ZyE {K : Zaa} (hK : ∀ args h, K 66 args h = none) : Zap U (Zab C K) 66 ⟨true, [.ty 5], [5], fun k => some (Za9 k)⟩ :=
  ZjG hK _ fun a r h => by cases h; exact ⟨0, ZrQ a⟩
theorem ZzW {K : Zaa} (hK : ∀ args h, K 47 args h = none) : Zap U (Zab C K) 47 ⟨true, [.ty 5], [5], fun k => some (Za9 k)⟩ :=
  ZiF hK _ fun a r h => by cases h; exact ⟨0, Zr8 a⟩
def ZrS (a : List Val × Int) : Option Fnd := if Zaq a.1 ≤ B then some (ZpD a.2 a.1) else none
theorem Zob {l : List Val} {cl : Int} (h : Zaq l ≤ B) : ZrS (l, cl) = some (ZpD cl l) := if_pos h
theorem ZvT (cl : Int) (l : List Val) (k : Nat) (h1 : Zaq l < k + 1) (h2 : Zaq l ≤ B) : ZiT (fun k => some (Za9 k)) (below (fun a : List Val × Int => Zaq a.1) k ZrS) (l.length + 1) l cl = some (ZpD cl l) := by
  have hB : B = 2 ^ 36 := rfl
  unfold ZiT
  refine (Zg8 l (fun (b : List Val) => ((0 : Int), (0 : Int), false)) (fun b => ((Zfu b : Int), (ZlF b : Int), Zrp cl b)) (fun b v => .inl (b ++ [v])) (fun b => some (ZpD cl b)) (fun i b => b = l.take i) ?_ ?_ ?_ [] rfl _ (Nat.lt_succ_self _)).trans ?_
  · intro i b v k' hv hlt hb
    subst hb
    have hmem := List.mem_of_getElem? hv
    have hs := ZeM hmem
    have hle := ZeJ l i
    have ht := ZtV hv
    have hle2 := ZeJ l (i + 1)
    have hl := ZeS l
    have hd := Zhv (l.take i)
    have hn := ZkN (l.take i)
    have hd' := Zhv v.l
    have hn' := ZkN v.l
    simp (disch := omega) only [Ze4, Zbh hv, Option.bind_some, dlt hlt, cond_true, Bool.cond_self, Zd4, Zob, ZdE]
    have hi : (i : Int) + 1 = ((i + 1 : Nat) : Int) := rfl
    rw [hi]
    simp only [Zly, ZrN, ZrE, Zfu, ZlF, Zrp, Val.dep_eq v, Val.ntk_eq v, Val.bad_eq cl v, ZpD]
    have hp : decide ((v.l.length : Int) > 0) = decide (0 < v.l.length) := by simp
    rw [hp]
    by_cases hc : Za9 v.tok.k = 0
    · simp only [hc, beq_self_eq_true, cond_true, if_true]
      have hx : (((max (Zfu (l.take i)) (max 0 0) : Nat)) : Int) = (Zfu (l.take i) : Int) := by omega
      have hy : (((ZlF (l.take i) + (1 + 0) : Nat)) : Int) = (ZlF (l.take i) : Int) + 1 := by omega
      rw [hx, hy]
      cases e1 : (cl != 0) <;> cases e2 : (v.tok.k == cl) <;> cases e3 : decide (0 < v.l.length) <;> cases e4 : Zrp cl (l.take i) <;> rfl
    · have hc' : (Za9 v.tok.k == 0) = false := by simpa using hc
      have hc2 : (Za9 v.tok.k != 0) = true := by simpa using hc
      have hbel : below (fun a : List Val × Int => Zaq a.1) k ZrS (v.l, Za9 v.tok.k) = some (ZpD (Za9 v.tok.k) v.l) := (Zd4 (sz := fun a : List Val × Int => Zaq a.1) (show Zaq v.l < k by omega)).trans (Zob (by omega))
      simp (disch := omega) only [hc', hc2, cond_false, if_neg hc, hbel, Option.bind_some, ZpD, ZdE]
      have hx : (if (Zfu v.l : Int) + 1 > (Zfu (l.take i) : Int) then (Zfu v.l : Int) + 1 else (Zfu (l.take i) : Int)) = (((max (Zfu (l.take i)) (max (1 + Zfu v.l) 0) : Nat)) : Int) := by split <;> omega
      have hy : (ZlF (l.take i) : Int) + 1 + (ZlF v.l : Int) + 1 = (((ZlF (l.take i) + (2 + ZlF v.l + 0) : Nat)) : Int) := by omega
      rw [hx, hy]
      cases e1 : (cl != 0) <;> cases e2 : (v.tok.k == cl) <;> cases e3 : decide (0 < v.l.length) <;> cases e4 : Zrp cl (l.take i) <;> cases e5 : Zrp (Za9 v.tok.k) v.l <;> rfl
  · intro i b v b' hv hb hs
    cases hs
    rw [ZbJ hv, hb]
  · intro b k' hb
    simp only [Ze4, Zpc, cond_false]; rfl
  · rw [Zd6 (fun (b : List Val) (v : Val) => b ++ [v]), ZfA]
theorem YdK {K : Zaa} (hK : ∀ args h, K 52 args h = none) (h67 : ∀ args h, K 66 args h = none) : Zap U (Zab C K) 52 ⟨true, [.ty 22, .ty 5], [84], ZrS⟩ :=
  Zd8 (U := U) (ak := [.ty 22, .ty 5]) (rts := [84]) (fun a : List Val × Int => Zaq a.1) ZrS fun k ih => Zlv hK _ _ (ZyE h67) ih _ fun a r h => by
    obtain ⟨h1, h2⟩ := Zda h
    unfold ZrS at h2
    split at h2
    · rename_i h3
      cases h2
      exact ⟨_, ZvT a.2 a.1 k h1 h3⟩
    · cases h2
def Zba (l : List Val) : Int := if Zfu l > 16 then 20 else if ZlF l > 1500 then 4 else if Zrp 0 l then 8 else 0
def Znf (l : List Val) : Option Int := if Zaq l ≤ B then some (Zba l) else none
theorem ZiS {l : List Val} (h : Zaq l ≤ B) : Znf l = some (Zba l) := if_pos h
theorem Zvo (l : List Val) (h : Zaq l ≤ B) : Zhc ZrS 0 l = some (Zba l) := by
  unfold Zhc Zba
  rw [Zob h]
  simp only [Option.bind_some, ZpD]
  by_cases h1 : Zfu l > 16
  · have : decide ((Zfu l : Int) > 16) = true := by simp; omega
    rw [this, if_pos h1]; rfl
  · have : decide ((Zfu l : Int) > 16) = false := by simp; omega
    rw [this, if_neg h1]
    by_cases h2 : ZlF l > 1500
    · have : decide ((ZlF l : Int) > 1500) = true := by simp; omega
      rw [this, if_pos h2]; rfl
    · have : decide ((ZlF l : Int) > 1500) = false := by simp; omega
      rw [this, if_neg h2]
      cases Zrp 0 l <;> rfl
theorem Zif {K : Zaa} (hK : ∀ args h, K 33 args h = none) (h43 : ∀ args h, K 52 args h = none) (h67 : ∀ args h, K 66 args h = none) : Zap U (Zab C K) 33 ⟨true, [.ty 22], [28], Znf⟩ :=
  ZkD hK _ (YdK h43 h67) _ fun a r h => by
    unfold Znf at h
    split at h
    · rename_i h3
      cases h
      exact ⟨0, Zvo a h3⟩
    · cases h
end Go.Tev.S1
namespace Go.Tev.S1
open Go.Abs Go.Proofs
def Zsa (l : List Val) : Option Int := if Zaq l ≤ B then some (Zfu l : Int) else none
theorem Ztz {l : List Val} (h : Zaq l ≤ B) : Zsa l = some (Zfu l : Int) := if_pos h
theorem Zwz (l : List Val) (k : Nat) (h1 : Zaq l < k + 1) (h2 : Zaq l ≤ B) : Zhi (fun k => some (Za9 k)) (below Zaq k Zsa) (l.length + 1) l = some (Zfu l : Int) := by
  have hB : B = 2 ^ 36 := rfl
  unfold Zhi
  refine (Zcy l (fun (b : List Val) => (Zfu b : Int)) (fun b v => .inl (b ++ [v])) (fun b => some (Zfu b : Int)) (fun i b => b = l.take i) ?_ ?_ ?_ [] rfl _ (Nat.lt_succ_self _)).trans ?_
  · intro i b v k' hv hlt hb
    subst hb
    have hmem := List.mem_of_getElem? hv
    have hs := ZeM hmem
    have hle := ZeJ l i
    have hl := ZeS l
    have hd := Zhv (l.take i)
    have hd' := Zhv v.l
    have hbel : below Zaq k Zsa v.l = some (Zfu v.l : Int) := (Zd4 (by omega)).trans (Ztz (by omega))
    simp (disch := omega) only [Zen, Zbh hv, Option.bind_some, dlt hlt, cond_true, hbel, ZdE]
    have hi : (i : Int) + 1 = ((i + 1 : Nat) : Int) := rfl
    rw [hi]
    simp only [Zly, Zfu, Val.dep_eq v]
    by_cases hc : Za9 v.tok.k = 0
    · have hc2 : (Za9 v.tok.k != 0) = false := by simpa using hc
      simp only [hc2, cond_false, if_pos hc, Option.bind_some]
      congr 1; omega
    · have hc2 : (Za9 v.tok.k != 0) = true := by simpa using hc
      simp (disch := omega) only [hc2, cond_true, if_neg hc, hbel, Option.bind_some, ZdE]
      have hx : (if (1 : Int) + (Zfu v.l : Int) > (Zfu (l.take i) : Int) then (1 : Int) + (Zfu v.l : Int) else (Zfu (l.take i) : Int)) = (((max (Zfu (l.take i)) (max (1 + Zfu v.l) 0) : Nat)) : Int) := by split <;> omega
      rw [hx]
  · intro i b v b' hv hb hs
    cases hs
    rw [ZbJ hv, hb]
  · intro b k' hb
    simp only [Zen, Zpc, cond_false]
  · rw [Zd6 (fun (b : List Val) (v : Val) => b ++ [v]), ZfA]
theorem Ydp {K : Zaa} (hK : ∀ args h, K 28 args h = none) (h54 : ∀ args h, K 47 args h = none) : Zap U (Zab C K) 28 ⟨true, [.ty 22], [3], Zsa⟩ :=
  Zd8 (U := U) (ak := [.ty 22]) (rts := [3]) Zaq Zsa fun k ih => Zkr hK _ _ (ZzW h54) ih _ fun a r h => by
    obtain ⟨h1, h2⟩ := Zda h
    unfold Zsa at h2
    split at h2
    · rename_i h3; cases h2; exact ⟨_, Zwz a k h1 h3⟩
    · cases h2
theorem ZlQ {b n : Nat} (h1 : n ≤ 2 ^ 40) (h2 : b ≤ 96) : room b n = some () := by
  unfold room
  have h3 : n * b ≤ 2 ^ 40 * 96 := Nat.mul_le_mul h1 h2
  rw [if_pos ⟨by omega, by omega⟩]
end Go.Tev.S1
namespace Go.Tev
open Go.Abs
def Zpe (b : UInt8) : UInt8 := if 65 ≤ b.toNat ∧ b.toNat ≤ 90 then b + 32 else b
def Zfa (l : List UInt8) : List UInt8 := l.map Zpe
def ZbY (l : List UInt8) : Bool := (decide ((l.length : Int) > 2) && decide ((l.length : Int) ≤ 64)) && (l.take 2 == [45, 45])
def Val.ref (v : Val) : Bool := v.tok.k == 2 && (Zfa v.tok.t == [118, 97, 114])
mutual
def Val.hasv : Val → Bool
  | .mk t l => (t.k == 2 && (Zfa t.t == [118, 97, 114])) || ZbR l
def ZbR : List Val → Bool
  | [] => false
  | v :: r => v.hasv || ZbR r
end
theorem Val.hasv_eq (v : Val) : v.hasv = (v.ref || ZbR v.l) := by cases v; rfl
theorem ZqT (a b : List Val) : ZbR (a ++ b) = (ZbR a || ZbR b) := by
  induction a with
  | nil => simp [ZbR]
  | cons v a ih => simp [ZbR, ih, Bool.or_assoc]
def sp (v : Val) : Bool := v.tok.k == 13
def spL : List Val → List Val
  | [] => []
  | v :: r => if sp v then spL r else v :: r
def trR (l : List Val) : List Val := (spL l.reverse).reverse
def trL (l : List Val) : List Val := trR (spL l)
theorem Ztb (l : List Val) : Zaq l.reverse = Zaq l := by
  induction l with
  | nil => rfl
  | cons v l ih => simp [ZeI, Zaq, ih]; omega
theorem ZlG (l : List Val) : Zaq (spL l) ≤ Zaq l := by
  induction l with
  | nil => exact Nat.le_refl _
  | cons v r ih => unfold spL; split <;> simp only [Zaq] <;> omega
theorem YbX (l : List Val) : Zaq (trL l) ≤ Zaq l := by
  unfold trL trR
  rw [Ztb]
  have h1 := ZlG (spL l).reverse
  rw [Ztb] at h1
  have h2 := ZlG l
  omega
def Zav (l : List Val) : List UInt8 × List Val × Bool :=
  match spL l with
  | [] => ([], [], false)
  | x :: r => if x.tok.k = 1 ∧ ZbY x.tok.t = true then
      (match spL r with
      | [] => (x.tok.t, [], false)
      | y :: s => if y.tok.k = 18 then (x.tok.t, trL s, true) else ([], [], false))
    else ([], [], false)
theorem ZiA (l : List Val) : Zaq (Zav l).2.1 ≤ Zaq l := by
  unfold Zav
  have h1 := ZlG l
  cases e : spL l with
  | nil => simp [Zaq]
  | cons x r =>
    rw [e] at h1
    simp only [Zaq] at h1
    have h2 := ZlG r
    simp only
    split
    · cases e2 : spL r with
      | nil => simp [Zaq]
      | cons y s =>
        rw [e2] at h2
        simp only [Zaq] at h2
        simp only
        split
        · have := YbX s
          simp only; omega
        · simp [Zaq]
    · simp [Zaq]
end Go.Tev
namespace Go.Tev.S1
open Go.Abs Go.Proofs
theorem kf {K : Zaa} (hK : Zc2 K) (f : Nat) (h : f ∉ [8, 26, 37, 43, 62, 73]) : ∀ args g, K f args g = none := fun args g => hK f args g h
theorem ZmB (p q : List UInt8) : ZaU 0 p q = some (p.take q.length == q) := by
  unfold ZaU
  by_cases h : q.length ≤ p.length
  · have : decide ((p.length : Int) ≥ (q.length : Int)) = true := by simp; omega
    simp only [this, cond_true, Zmh]
    rw [if_pos (by omega)]
    simp
  · have : decide ((p.length : Int) ≥ (q.length : Int)) = false := by simp; omega
    simp only [this, cond_false, Option.bind_some]
    congr 1
    symm
    rw [beq_eq_false_iff_ne]
    intro he
    have := congrArg List.length he
    simp at this
    omega
theorem Zsw (p : List UInt8) : ZeV (fun a => some (a.1.take a.2.length == a.2)) 0 p = some (ZbY p) := by
  unfold ZeV ZbY
  simp only [Option.bind_some, List.length_cons, List.length_nil]
  cases e1 : (p.take 2 == [45, 45]) <;> cases e2 : decide ((p.length : Int) > 2) <;> cases e3 : decide ((p.length : Int) ≤ 64) <;> rfl
theorem ZpM {K : Zaa} (hK : Zc2 K) : Zap U (Zab C K) 89 ⟨true, [.ty 9, .ty 9], [4], fun a => some (a.1.take a.2.length == a.2)⟩ :=
  ZcL (kf hK 89 (by decide)) _ fun a r h => by cases h; exact ⟨0, ZmB a.1 a.2⟩
theorem Zsu {K : Zaa} (hK : Zc2 K) : Zap U (Zab C K) 72 ⟨true, [.ty 9, .ty 9], [4], fun a => some (a.1.take a.2.length == a.2)⟩ :=
  Zf0 (kf hK 72 (by decide)) _ (ZpM hK) _ fun a r h => by cases h; exact ⟨0, rfl⟩
theorem Zue {K : Zaa} (hK : Zc2 K) : Zap U (Zab C K) 61 ⟨true, [.ty 9], [4], fun a => some (ZbY a)⟩ :=
  Zil (kf hK 61 (by decide)) _ (Zsu hK) _ fun a r h => by cases h; exact ⟨0, Zsw a⟩
def Yeb (l : List UInt8) : Option (List UInt8) := if l.length ≤ B then some (Zfa l) else none
theorem YbE {l : List UInt8} (h : l.length ≤ B) : Yeb l = some (Zfa l) := if_pos h
def half (l b : List UInt8) : List Int := Zge (b ++ l.drop b.length)
theorem Ztx {l : List UInt8} {i : Nat} {v : UInt8} (hv : l[i]? = some v) : (half l (Zfa (l.take i)))[i]? = some (v.toNat : Int) := by
  have hlt : i < l.length := (List.getElem?_eq_some_iff.1 hv).1
  simp only [half, Zge, Zfa, List.length_map, List.length_take, List.getElem?_map]
  rw [List.getElem?_append_right (by simp; omega)]
  simp only [List.length_map, List.length_take, List.getElem?_drop, Nat.min_eq_left (Nat.le_of_lt hlt)]
  rw [Nat.sub_self, Nat.add_zero, hv]; rfl
theorem ZnQ {l : List UInt8} {i : Nat} (h : i ≤ l.length) : (half l (Zfa (l.take i))).length = l.length := by
  simp [half, Zge, Zfa]; omega
theorem Zrg {l : List UInt8} {i : Nat} {v : UInt8} (hv : l[i]? = some v) : half l (Zfa (l.take (i + 1))) = (half l (Zfa (l.take i))).set i ((Zpe v).toNat : Int) := by
  have hlt : i < l.length := (List.getElem?_eq_some_iff.1 hv).1
  apply List.ext_getElem?
  intro j
  rw [ZbJ hv]
  simp only [half, Zge, Zfa, List.map_append, List.map_cons, List.map_nil, List.length_append, List.length_map, List.length_take, Nat.min_eq_left (Nat.le_of_lt hlt), List.length_cons, List.length_nil]
  have hd : l.drop i = v :: l.drop (i + 1) := by
    rw [List.drop_eq_getElem_cons hlt]
    have := List.getElem?_eq_getElem hlt
    rw [hv] at this
    cases this; rfl
  rw [hd]
  simp only [List.append_assoc, List.cons_append, List.nil_append, List.map_append, List.map_cons, List.map_map]
  have hl : (List.map ((fun c => ((UInt8.toNat c : Nat) : Int)) ∘ Zpe) (List.take i l)).length = i := by simp; omega
  rw [List.set_append_right _ _ (by rw [hl]; exact Nat.le_refl _), hl, Nat.sub_self]
  rfl
theorem ZnC {l : List UInt8} {i : Nat} {v : UInt8} (hv : l[i]? = some v) (h : Zpe v = v) : half l (Zfa (l.take (i + 1))) = half l (Zfa (l.take i)) := by
  rw [Zrg hv, h]
  have h2 := Ztx hv
  apply List.ext_getElem?
  intro j
  by_cases hj : i = j
  · subst hj
    rw [List.getElem?_set_self (by rw [ZnQ]; exact (List.getElem?_eq_some_iff.1 hv).1; exact Nat.le_of_lt (List.getElem?_eq_some_iff.1 hv).1), h2]
  · rw [List.getElem?_set_ne hj]
theorem Zrc (l : List UInt8) : Zoe ((half l (Zfa l)).take l.length) = Zfa l := by
  have : half l (Zfa l) = Zge (Zfa l) := by
    unfold half
    rw [List.drop_eq_nil_of_le (by simp [Zfa]), List.append_nil]
  rw [this, List.take_of_length_le (by simp [Zge, Zfa])]
  unfold Zoe Zge
  rw [List.map_map]
  conv => rhs; rw [← List.map_id (Zfa l)]
  apply List.map_congr_left
  intro c _
  simp
theorem Yck {v : UInt8} (h : 65 ≤ v.toNat ∧ v.toNat ≤ 90) : ((Zpe v).toNat : Int) = (v.toNat : Int) + 32 := by
  unfold Zpe
  rw [if_pos h, UInt8.toNat_add]
  have : (32 : UInt8).toNat = 32 := rfl
  rw [this]; omega
theorem Ycq {v : UInt8} (h : ¬ (65 ≤ v.toNat ∧ v.toNat ≤ 90)) : Zpe v = v := if_neg h
theorem Yc5 {n : Int} (h1 : 0 ≤ n) (h2 : n < 256) : IntKind.u8.wrap n = n := by
  simp [IntKind.wrap, IntKind.signed, IntKind.bits]
  omega
theorem Zuh (l : List UInt8) (h2 : l.length ≤ B) : ZfQ (l.length + 1) l = some (Zfa l) := by
  have hB : B = 2 ^ 36 := rfl
  unfold ZfQ
  refine ((congrArg (fun z => Zff _ _ _ z) (show Zge l = half l (Zfa (l.take 0)) by simp [half, Zfa])).trans (ZlW l (half l) (fun b v => .inl (b ++ [Zpe v])) (fun b => some (Zoe ((half l b).take l.length))) (fun i b => b = Zfa (l.take i)) ?_ ?_ ?_ [] rfl _ (Nat.lt_succ_self _))).trans ?_
  · intro i b v k' hv hlt hb
    subst hb
    have hlen := ZnQ (l := l) (i := i) (by omega)
    have hn := v.toNat_lt
    have hg : (if 0 ≤ (i : Int) ∧ (i : Int) < l.length ∧ (i : Int) < (half l (Zfa (l.take i))).length then some (i : Int).toNat else none) = some i := by
      rw [if_pos (by omega)]; rfl
    simp (disch := omega) only [ZdX, dlt hlt, cond_true, hg, Option.bind_some, Ztx hv, ZdE]
    have hi : (i : Int) + 1 = ((i + 1 : Nat) : Int) := rfl
    rw [hi]
    have hsn : half l (Zfa (l.take i) ++ [Zpe v]) = half l (Zfa (l.take (i + 1))) := by rw [ZbJ hv]; simp [Zfa]
    rw [hsn]
    by_cases hc : 65 ≤ v.toNat ∧ v.toNat ≤ 90
    · have e1 : decide ((v.toNat : Int) ≥ 65) = true := by simp; omega
      have e2 : decide ((v.toNat : Int) ≤ 90) = true := by simp; omega
      have e3 : i < (half l (Zfa (l.take i))).length := by omega
      simp only [e1, e2, cond_true, hg, Option.bind_some, if_pos e3]
      rw [Zrg hv, Yck hc]
      congr 3
      rw [Yc5 (n := (v.toNat : Int) + 97) (by omega) (by omega)]
      rw [Yc5 (by omega) (by omega)]
      omega
    · have e1 : (bif decide ((v.toNat : Int) ≥ 65) then decide ((v.toNat : Int) ≤ 90) else false) = false := by
        cases a : decide ((v.toNat : Int) ≥ 65)
        · rfl
        · simp at a ⊢; omega
      simp only [e1, cond_false, Option.bind_some]
      rw [ZnC hv (Ycq hc)]
  · intro i b v b' hv hb hs
    cases hs
    rw [ZbJ hv, hb]; simp [Zfa]
  · intro b k' hb
    rw [List.take_length] at hb
    subst hb
    have := ZnQ (l := l) (i := l.length) (Nat.le_refl _)
    rw [List.take_length] at this
    simp only [ZdX, Zpc, cond_false, this, Nat.le_refl, if_true, Option.bind_some]
  · rw [Zd6 (fun (b : List UInt8) (v : UInt8) => b ++ [Zpe v])]
    have : ∀ (l b : List UInt8), l.foldl (fun (b : List UInt8) (v : UInt8) => b ++ [Zpe v]) b = b ++ Zfa l := by
      intro l
      induction l with
      | nil => intro b; simp [Zfa]
      | cons v l ih => intro b; simp only [List.foldl_cons, ih]; simp [Zfa]
    rw [this, List.nil_append, Zrc]
theorem Yb2 {K : Zaa} (hK : Zc2 K) : Zap U (Zab C K) 41 ⟨true, [.ty 9], [9], Yeb⟩ :=
  ZjQ (kf hK 41 (by decide)) _ fun a r h => by
    unfold Yeb at h
    split at h
    · rename_i h3; cases h; exact ⟨_, Zuh a h3⟩
    · cases h
end Go.Tev.S1
namespace Go.Tev.S1
open Go.Abs Go.Proofs
theorem YdX : ∀ (c : Nat), c = 118 ∨ c = 97 ∨ c = 114 → ∀ (n : Nat), n < 256 → ((IntKind.u8.wrap (BitVec.ofInt 8 (n : Int) ||| BitVec.ofInt 8 32).toNat) == (c : Int)) = decide ((Zpe (UInt8.ofNat n)).toNat = c) := by
  intro c hc
  rcases hc with rfl | rfl | rfl <;> decide +kernel
theorem ZrF {b : UInt8} {c : UInt8} (hc : c.toNat = 118 ∨ c.toNat = 97 ∨ c.toNat = 114) : ((IntKind.u8.wrap (BitVec.ofInt (IntKind.u8).bits (b.toNat : Int) ||| BitVec.ofInt (IntKind.u8).bits (32 : Int)).toNat) == (c.toNat : Int)) = (Zpe b == c) := by
  have h := YdX c.toNat hc b.toNat b.toNat_lt
  rw [UInt8.ofNat_toNat] at h
  refine h.trans ?_
  rw [Bool.eq_iff_iff, decide_eq_true_iff, beq_iff_eq]
  exact ⟨UInt8.toNat_inj.1, fun h => h ▸ rfl⟩
theorem ZuI (v : Val) : Zhg 0 v = some v.ref := by
  unfold Zhg Val.ref
  cases e : (v.tok.k == 2)
  · rfl
  · simp only [cond_true, Option.bind_some, Bool.true_and]
    have h1 := fun b => ZrF (b := b) (c := 118) (Or.inl rfl)
    have h2 := fun b => ZrF (b := b) (c := 97) (Or.inr (Or.inl rfl))
    have h3 := fun b => ZrF (b := b) (c := 114) (Or.inr (Or.inr rfl))
    have c1 : (((118 : UInt8).toNat : Nat) : Int) = 118 := rfl
    have c2 : (((97 : UInt8).toNat : Nat) : Int) = 97 := rfl
    have c3 : (((114 : UInt8).toNat : Nat) : Int) = 114 := rfl
    rw [c1] at h1
    rw [c2] at h2
    rw [c3] at h3
    rcases v.tok.t with _ | ⟨a, _ | ⟨b, _ | ⟨c, _ | ⟨d, r⟩⟩⟩⟩
    · rfl
    · have : (Zfa [a] == [118, 97, 114]) = false := by simp [Zfa]
      rw [this]; rfl
    · have : (Zfa [a, b] == [118, 97, 114]) = false := by simp [Zfa]
      rw [this]; rfl
    · have e0 : (([a, b, c].length : Int) == 3) = true := rfl
      have g0 : Zeu [a, b, c] 0 = some a := rfl
      have g1 : Zeu [a, b, c] 1 = some b := rfl
      have g2 : Zeu [a, b, c] 2 = some c := rfl
      simp only [e0, g0, g1, g2, cond_true, Option.bind_some, h1]
      have hl : (Zfa [a, b, c] == [118, 97, 114]) = (Zpe a == 118 && (Zpe b == 97 && Zpe c == 114)) := by
        simp only [Zfa, List.map_cons, List.map_nil, List.cons_beq_cons, Bool.and_true, beq_self_eq_true]
      rw [hl]
      cases e1 : (Zpe a == 118)
      · rfl
      · simp only [cond_true, Option.bind_some, h2]
        cases e2 : (Zpe b == 97)
        · rfl
        · simp only [cond_true, Option.bind_some, h3]
          rfl
    · have e0 : (((a :: b :: c :: d :: r).length : Int) == 3) = false := by
        simp only [List.length_cons, beq_eq_false_iff_ne]; omega
      have : (Zfa (a :: b :: c :: d :: r) == [118, 97, 114]) = false := by simp [Zfa]
      rw [e0, this]; rfl
theorem Zr2 {K : Zaa} (hK : Zc2 K) : Zap U (Zab C K) 55 ⟨true, [.ty 51], [4], fun v => some v.ref⟩ :=
  Zku (kf hK 55 (by decide)) _ fun a r h => by cases h; exact ⟨0, ZuI a⟩
def YcA (l : List Val) : Option Bool := if Zaq l ≤ B then some (ZbR l) else none
theorem ZxW {l : List Val} (h : Zaq l ≤ B) : YcA l = some (ZbR l) := if_pos h
def Zgj : List Val → Int → Int
  | [], _ => -1
  | v :: r, i => if v.hasv then i else Zgj r (i + 1)
theorem Zvz (l : List Val) : ∀ i : Nat, decide (Zgj l (i : Int) ≥ 0) = ZbR l := by
  induction l with
  | nil => intro i; rfl
  | cons v r ih =>
    intro i
    by_cases h : v.hasv = true
    · have e : Zgj (v :: r) (i : Int) = i := by simp only [Zgj, h, if_true]
      rw [e, ZbR, h]; simp
    · have e : Zgj (v :: r) (i : Int) = Zgj r ((i + 1 : Nat) : Int) := by simp only [Zgj, if_neg h]; rfl
      rw [e, ih (i + 1), ZbR, (Bool.not_eq_true _).mp h, Bool.false_or]
def sV1 (k : Nat) (v : Val) : Option Bool := if Zaq v.l < k ∧ v.tot ≤ B then some v.hasv else none
def sV2 (k : Nat) (l : List Val) : Option Int := if Zaq l < k + 1 ∧ Zaq l ≤ B then some (Zgj l 0) else none
def sV3 (k : Nat) (l : List Val) : Option Bool := if Zaq l < k + 1 ∧ Zaq l ≤ B then some (ZbR l) else none
theorem Yci (k : Nat) (v : Val) (h1 : Zaq v.l < k) (h2 : v.tot ≤ B) : ZfS Yeb (below Zaq k YcA) 0 v = some v.hasv := by
  have he := v.tot_eq
  have hbel : below Zaq k YcA v.l = some (ZbR v.l) := (Zd4 (show Zaq v.l < k by omega)).trans (ZxW (by omega))
  unfold ZfS
  simp only [YbE (show v.tok.t.length ≤ B by omega), hbel, Option.bind_some]
  rw [Val.hasv_eq, Val.ref]
  cases e1 : (v.tok.k == 2) <;> cases e2 : (Zfa v.tok.t == [118, 97, 114]) <;> cases e5 : ZbR v.l <;> first | rfl | simp [e2]
theorem YbJ (k : Nat) (l : List Val) (h1 : Zaq l < k + 1) (h2 : Zaq l ≤ B) : Zas (sV1 k) (l.length + 1) l = some (Zgj l 0) := by
  have hB : B = 2 ^ 36 := rfl
  unfold Zas
  refine (Zcy l (fun (_ : Nat) => (0 : Int)) (fun b v => if v.hasv then .inr (some (b : Int)) else .inl (b + 1)) (fun b => some (-1 : Int)) (fun i b => b = i) ?_ ?_ ?_ 0 rfl _ (Nat.lt_succ_self _)).trans ?_
  · intro i b v k' hv hlt hb
    subst hb
    have hmem := List.mem_of_getElem? hv
    have hs := ZeM hmem
    have hm := Zk6 hmem
    have hl := ZeS l
    have h3 : sV1 k (Val.mk v.tok v.l) = some v.hasv := by rw [Val.eta]; exact if_pos ⟨by omega, by omega⟩
    simp (disch := omega) only [Zan, Zbh hv, Option.bind_some, dlt hlt, cond_true, h3, ZdE]
    cases v.hasv <;> rfl
  · intro i b v b' hv hb hs
    subst hb
    cases e : v.hasv <;> rw [e] at hs <;> cases hs
    rfl
  · intro b k' hb
    simp only [Zan, Zpc, cond_false]
  · clear h1 h2
    have : ∀ (l : List Val) (b : Nat), Zjg (fun (b : Nat) (v : Val) => if v.hasv then .inr (some (b : Int)) else .inl (b + 1)) (fun _ => some (-1 : Int)) l b = some (Zgj l (b : Int)) := by
      intro l
      induction l with
      | nil => intro b; rfl
      | cons v l ih =>
        intro b
        simp only [Zjg, Zgj]
        cases v.hasv with
        | true => rfl
        | false => exact ih (b + 1)
    exact this l 0
theorem YeP {K : Zaa} (hK : Zc2 K) : Zap U (Zab C K) 14 ⟨true, [.ty 22], [4], YcA⟩ :=
  Zd8 (U := U) (ak := [.ty 22]) (rts := [4]) Zaq YcA fun k ih =>
    have m1 : Zap U (Zab C K) 40 ⟨true, [.ty 51], [4], sV1 k⟩ := ZjF (kf hK 40 (by decide)) _ _ (Yb2 hK) ih _ fun a r h => by
      unfold sV1 at h
      split at h
      · rename_i h3; cases h; exact ⟨0, Yci k a h3.1 h3.2⟩
      · cases h
    have m2 : Zap U (Zab C K) 60 ⟨true, [.ty 22, .fn 40], [3], sV2 k⟩ := Zbr (kf hK 60 (by decide)) _ m1 _ fun a r h => by
      unfold sV2 at h
      split at h
      · rename_i h3; cases h; exact ⟨_, YbJ k a h3.1 h3.2⟩
      · cases h
    have m3 : Zap U (Zab C K) 39 ⟨true, [.ty 22, .fn 40], [4], sV3 k⟩ := Zbe (kf hK 39 (by decide)) _ m2 _ fun a r h => by
      unfold sV3 at h
      split at h
      · rename_i h3; cases h
        refine ⟨0, ?_⟩
        unfold Zaw
        rw [show sV2 k a = some (Zgj a 0) from if_pos h3]
        exact congrArg some (Zvz a 0)
      · cases h
    ZlO (kf hK 14 (by decide)) _ m3 _ fun a r h => by
      obtain ⟨h1, h2⟩ := Zda h
      unfold YcA at h2
      split at h2
      · rename_i h3; cases h2
        refine ⟨0, ?_⟩
        unfold Zlj
        rw [show sV3 k a = some (ZbR a) from if_pos ⟨h1, h3⟩]
        rfl
      · cases h2
end Go.Tev.S1
namespace Go.Tev
open Go.Abs
mutual
def Val.siz (lim : Int) : Val → Int
  | .mk t l => IntKind.i64.wrap ((IntKind.i64.wrap ((IntKind.i64.wrap ((1 : Int) + (t.t.length : Int))) + (t.u.length : Int))) + Zvy lim 0 l)
def Zvy (lim acc : Int) : List Val → Int
  | [] => acc
  | v :: r => if acc ≤ lim then Zvy lim (IntKind.i64.wrap (acc + v.siz (IntKind.i64.wrap (lim - acc)))) r else acc
end
theorem Val.siz_eq (lim : Int) (v : Val) : v.siz lim = IntKind.i64.wrap ((IntKind.i64.wrap ((IntKind.i64.wrap ((1 : Int) + (v.tok.t.length : Int))) + (v.tok.u.length : Int))) + Zvy lim 0 v.l) := by cases v; rfl
mutual
def Val.eqb : Val → Val → Bool
  | .mk t l, .mk t' l' => Tok.eqb t t' && ZuO l l'
def ZuO : List Val → List Val → Bool
  | [], [] => true
  | v :: r, v' :: r' => v.eqb v' && ZuO r r'
  | _, _ => false
end
end Go.Tev
namespace Go.Tev.S1
open Go.Abs Go.Proofs
def Zmm (a : List Val × Int) : Option Int := if Zaq a.1 ≤ B then some (Zvy a.2 0 a.1) else none
theorem ZoP {l : List Val} {c : Int} (h : Zaq l ≤ B) : Zmm (l, c) = some (Zvy c 0 l) := if_pos h
theorem ZvZ (lim : Int) (l : List Val) (k : Nat) (h1 : Zaq l < k + 1) (h2 : Zaq l ≤ B) : Zhh (below (fun a : List Val × Int => Zaq a.1) k Zmm) (l.length + 2) l lim = some (Zvy lim 0 l) := by
  have hB : B = 2 ^ 36 := rfl
  unfold Zhh Zff
  have main : ∀ (r : List Val) (i : Nat) (acc : Int) (fuel : Nat), l.drop i = r → i ≤ l.length → r.length + 1 < fuel → Zgs (fun y k_1 => ZcC (below (fun a : List Val × Int => Zaq a.1) k Zmm) (l.length + 2) l lim 0 (fun z1 => some z1) y.1 y.2.1 fun a0 a1 => k_1 (a0, a1, ())) fuel (acc, (i : Int), ()) = some (Zvy lim acc r) := by
    intro r
    induction r with
    | nil =>
      intro i acc fuel hr hi hf
      obtain ⟨n, rfl⟩ : ∃ n, fuel = n + 1 := ⟨fuel - 1, by omega⟩
      have : i = l.length := by
        have := congrArg List.length hr
        simp at this; omega
      subst this
      simp only [Zgs, ZcC, Zpc, cond_false, Option.bind_some, Zvy]
    | cons v r ih =>
      intro i acc fuel hr hi hf
      obtain ⟨n, rfl⟩ : ∃ n, fuel = n + 1 := ⟨fuel - 1, by omega⟩
      have hv : l[i]? = some v := by
        have := congrArg (fun x => x[0]?) hr
        simpa using this
      have hlt : i < l.length := (List.getElem?_eq_some_iff.1 hv).1
      have hr' : l.drop (i + 1) = r := by rw [← List.drop_drop, hr]; rfl
      have hmem := List.mem_of_getElem? hv
      have hs := ZeM hmem
      have hl := ZeS l
      have hbel : below (fun a : List Val × Int => Zaq a.1) k Zmm (v.l, IntKind.i64.wrap (lim - acc)) = some (Zvy (IntKind.i64.wrap (lim - acc)) 0 v.l) := (Zd4 (sz := fun a : List Val × Int => Zaq a.1) (show Zaq v.l < k by omega)).trans (ZoP (by omega))
      rw [Zvy, Val.siz_eq]
      by_cases hc : acc ≤ lim
      · have e1 : decide (acc ≤ lim) = true := decide_eq_true hc
        rw [if_pos hc]
        simp only [Zgs, ZcC, dlt hlt, cond_true, Option.bind_some, e1, Zbh hv, hbel]
        rw [Za1 (by omega)]
        exact ih (i + 1) _ n hr' (by omega) (by simp at hf; omega)
      · have e1 : decide (acc ≤ lim) = false := decide_eq_false hc
        rw [if_neg hc]
        simp only [Zgs, ZcC, dlt hlt, cond_true, cond_false, Option.bind_some, e1]
  exact main l 0 0 (l.length + 2) rfl (Nat.zero_le _) (by omega)
theorem YaB {K : Zaa} (hK : Zc2 K) : Zap U (Zab C K) 27 ⟨true, [.ty 22, .ty 3], [3], Zmm⟩ :=
  Zd8 (U := U) (ak := [.ty 22, .ty 3]) (rts := [3]) (fun a : List Val × Int => Zaq a.1) Zmm fun k ih => Zkt (kf hK 27 (by decide)) _ ih _ fun a r h => by
    obtain ⟨h1, h2⟩ := Zda h
    unfold Zmm at h2
    split at h2
    · rename_i h3; cases h2; exact ⟨_, ZvZ a.2 a.1 k h1 h3⟩
    · cases h2
def ZvM (l : List Val) : Bool := decide (Zvy 300 0 l > 300) || decide (Zfu l > 40)
def Zq1 (l : List Val) : Option Bool := if Zaq l ≤ B then some (ZvM l) else none
theorem Zwm {l : List Val} (h : Zaq l ≤ B) : Zq1 l = some (ZvM l) := if_pos h
theorem Zvr (l : List Val) (h : Zaq l ≤ B) : Zgb Zmm Zsa 0 l = some (ZvM l) := by
  unfold Zgb ZvM
  rw [ZoP h, Ztz h]
  simp only [Option.bind_some]
  have : decide ((Zfu l : Int) > 40) = decide (Zfu l > 40) := by simp; omega
  rw [← this]
  cases decide (Zvy 300 0 l > 300) <;> rfl
theorem Ybe {K : Zaa} (hK : Zc2 K) : Zap U (Zab C K) 9 ⟨true, [.ty 22], [4], Zq1⟩ :=
  Zjv (kf hK 9 (by decide)) _ _ (YaB hK) (Ydp (kf hK 28 (by decide)) (kf hK 47 (by decide))) _ fun a r h => by
    unfold Zq1 at h
    split at h
    · rename_i h3; cases h; exact ⟨0, Zvr a h3⟩
    · cases h
def Zp9 (a : List Val × List Val) : Option Bool := if Zaq a.1 ≤ B ∧ Zaq a.2 ≤ B then some (ZuO a.1 a.2) else none
theorem ZtY {l m : List Val} (h : Zaq l ≤ B) (h2 : Zaq m ≤ B) : Zp9 (l, m) = some (ZuO l m) := if_pos ⟨h, h2⟩
theorem Val.eqb_eq (v w : Val) : v.eqb w = (Tok.eqb v.tok w.tok && ZuO v.l w.l) := by cases v; cases w; rfl
theorem Zt9 : ∀ (l m : List Val), l.length ≠ m.length → ZuO l m = false
  | [], [], h => absurd rfl h
  | [], _ :: _, _ => rfl
  | _ :: _, [], _ => rfl
  | v :: r, w :: s, h => by
    rw [ZuO, Zt9 r s (by simp at h; exact h), Bool.and_false]
theorem ZwW (l m : List Val) (k : Nat) (h1 : Zaq l < k + 1) (h2 : Zaq l ≤ B) (h3 : Zaq m ≤ B) : Zg6 (below (fun a : List Val × List Val => Zaq a.1) k Zp9) (l.length + 1) l m = some (ZuO l m) := by
  have hB : B = 2 ^ 36 := rfl
  unfold Zg6
  by_cases hle : l.length = m.length
  · have e0 : ((l.length : Int) != (m.length : Int)) = false := by simp [hle]
    rw [e0, cond_false]
    refine (Zcy (l.zip m) (fun (_ : Unit) => false) (fun b v => if v.1.eqb v.2 then .inl () else .inr (some false)) (fun b => some true) (fun i b => True) ?_ ?_ ?_ () trivial _ (by simp; omega)).trans ?_
    · intro i b v k' hv hlt hb
      have hz : i < l.length ∧ i < m.length := by simp at hlt; omega
      obtain ⟨hv1, hv2⟩ := List.getElem?_zip_eq_some.1 hv
      have hmem := List.mem_of_getElem? hv1
      have hmem2 := List.mem_of_getElem? hv2
      have hs := ZeM hmem
      have hs2 := ZeM hmem2
      have hl := ZeS l
      have hbel : below (fun a : List Val × List Val => Zaq a.1) k Zp9 (v.1.l, v.2.l) = some (ZuO v.1.l v.2.l) := (Zd4 (sz := fun a : List Val × List Val => Zaq a.1) (show Zaq v.1.l < k by omega)).trans (ZtY (by omega) (by omega))
      simp (disch := omega) only [Zel, Zbh hv1, Zbh hv2, Option.bind_some, dlt hz.1, cond_true, hbel, ZdE]
      have hi : (i : Int) + 1 = ((i + 1 : Nat) : Int) := rfl
      rw [hi, Val.eqb_eq]
      cases e1 : Tok.eqb v.1.tok v.2.tok <;> cases e5 : ZuO v.1.l v.2.l <;> rw [e5] at hbel <;> first | rfl | simp [hbel]
    · intro i b v b' hv hb hs
      trivial
    · intro b k' hb
      have : (l.zip m).length = l.length := by simp; omega
      rw [this]
      simp only [Zel, Zpc, cond_false]
    · clear h1 h2 h3 e0
      induction l generalizing m with
      | nil => cases m with
        | nil => rfl
        | cons w m => simp at hle
      | cons v l ih => cases m with
        | nil => simp at hle
        | cons w m =>
          simp only [List.zip_cons_cons, Zjg, ZuO]
          cases v.eqb w with
          | true => simpa using ih m (by simp at hle; exact hle)
          | false => rfl
  · have e0 : ((l.length : Int) != (m.length : Int)) = true := by simp; omega
    rw [e0, Zt9 l m hle]; rfl
theorem Ydd {K : Zaa} (hK : Zc2 K) : Zap U (Zab C K) 15 ⟨true, [.ty 22, .ty 22], [4], Zp9⟩ :=
  Zd8 (U := U) (ak := [.ty 22, .ty 22]) (rts := [4]) (fun a : List Val × List Val => Zaq a.1) Zp9 fun k ih => Zko (kf hK 15 (by decide)) _ ih _ fun a r h => by
    obtain ⟨h1, h2⟩ := Zda h
    unfold Zp9 at h2
    split at h2
    · rename_i h3; cases h2; exact ⟨_, ZwW a.1 a.2 k h1 h3.1 h3.2⟩
    · cases h2
end Go.Tev.S1
namespace Go.Tev.S1
open Go.Abs Go.Proofs
theorem ZwA (l : List Val) (k : Nat) (h1 : Zaq l < k + 1) (h2 : Zaq l ≤ B) : Zgc (below Zaq k Zqq) (l.length + 1) l = some (Zaq l : Int) := by
  have hB : B = 2 ^ 36 := rfl
  unfold Zgc
  refine (Zcy l (fun (b : List Val) => (Zaq b : Int)) (fun b v => .inl (b ++ [v])) (fun b => some (Zaq b : Int)) (fun i b => b = l.take i) ?_ ?_ ?_ [] rfl _ (Nat.lt_succ_self _)).trans ?_
  · intro i b v k' hv hlt hb
    subst hb
    have hmem := List.mem_of_getElem? hv
    have hs := ZeM hmem
    have ht := ZtV hv
    have hle := ZeJ l (i + 1)
    have hl := ZeS l
    have he := v.tot_eq
    have hbel : below Zaq k Zqq v.l = some (Zaq v.l : Int) := (Zd4 (show Zaq v.l < k by omega)).trans (ZnA (by omega))
    simp (disch := omega) only [ZdW, Zbh hv, Option.bind_some, dlt hlt, cond_true, hbel, ZdE]
    have hx : (Zaq (l.take i) : Int) + (1 + (v.tok.t.length : Int) + (v.tok.u.length : Int) + (Zaq v.l : Int)) = (Zaq (l.take i ++ [v]) : Int) := by
      rw [ZeI]; simp only [Zaq]; omega
    rw [hx]; rfl
  · intro i b v b' hv hb hs
    cases hs
    rw [ZbJ hv, hb]
  · intro b k' hb
    simp only [ZdW, Zpc, cond_false]
  · rw [Zd6 (fun (b : List Val) (v : Val) => b ++ [v]), ZfA]
theorem YaR {K : Zaa} (hK : Zc2 K) : Zap U (Zab C K) 44 ⟨true, [.ty 22], [3], Zqq⟩ :=
  Zd8 (U := U) (ak := [.ty 22]) (rts := [3]) Zaq Zqq fun k ih => Zji (kf hK 44 (by decide)) _ ih _ fun a r h => by
    obtain ⟨h1, h2⟩ := Zda h
    obtain ⟨h3, rfl⟩ := ZuE h2
    exact ⟨_, ZwA a k h1 h3⟩
theorem Znt {R : Type} (G : List Val → (List Val → Option R) → Option R) (kx : List Val → Option R)
    (hG : ∀ l k, G l k = match l with
      | [] => kx []
      | v :: r => if sp v then k r else kx (v :: r)) : ∀ (l : List Val) (n : Nat), l.length < n → Zvn G n l = kx (spL l)
  | [], n, h => by
    obtain ⟨n, rfl⟩ : ∃ m, n = m + 1 := ⟨n - 1, by omega⟩
    rw [Zg5, hG]; rfl
  | v :: r, n, h => by
    obtain ⟨n, rfl⟩ : ∃ m, n = m + 1 := ⟨n - 1, by omega⟩
    rw [Zg5, hG, spL]
    simp only
    by_cases hv : sp v = true
    · rw [if_pos hv, if_pos hv]
      exact Znt G kx hG r n (by simp at h; omega)
    · rw [if_neg hv, if_neg hv]
theorem ZwE {R : Type} (G : List Val → (List Val → Option R) → Option R) (kx : List Val → Option R)
    (h0 : ∀ k, G [] k = kx []) (hG : ∀ l v k, l.length < 2 ^ 62 → G (l ++ [v]) k = if sp v then k l else kx (l ++ [v])) : ∀ (m l : List Val) (n : Nat), l.reverse = m → l.length < n → l.length < 2 ^ 62 → Zvn G n l = kx (trR l)
  | [], l, n, e, h, hb => by
    have : l = [] := by simpa using e
    subst this
    obtain ⟨n, rfl⟩ : ∃ m, n = m + 1 := ⟨n - 1, by omega⟩
    rw [Zg5, h0]; rfl
  | v :: r, l, n, e, h, hb => by
    have : l = r.reverse ++ [v] := by rw [← List.reverse_reverse l, e]; simp
    subst this
    simp at hb h
    obtain ⟨n, rfl⟩ : ∃ m, n = m + 1 := ⟨n - 1, by omega⟩
    rw [Zg5, hG _ _ _ (by simp; omega)]
    have e2 : trR (r.reverse ++ [v]) = if sp v then trR r.reverse else r.reverse ++ [v] := by
      unfold trR
      rw [e, spL]
      split
      · simp
      · simp
    rw [e2]
    by_cases hv : sp v = true
    · rw [if_pos hv, if_pos hv]
      exact ZwE G kx h0 hG r r.reverse n (by simp) (by simp; omega) (by simp; omega)
    · rw [if_neg hv, if_neg hv]
theorem Zwl {v : Val} {r : List Val} : Zeu (v :: r) 0 = some v := rfl
theorem ZlK {v : Val} {r : List Val} : Zmh (v :: r) 1 ((v :: r).length : Int) = some r := by
  unfold Zmh
  rw [if_pos (by simp; omega)]
  simp
theorem Yak {v : Val} {r : List Val} : decide (((v :: r).length : Int) > 0) = true := by simp
theorem ZxJ {l : List Val} {v : Val} : Zeu (l ++ [v]) (l.length : Int) = some v := Zbh (by simp)
theorem Zv7 {l : List Val} {v : Val} : Zmh (l ++ [v]) 0 (l.length : Int) = some l := by
  unfold Zmh
  rw [if_pos (by simp; omega)]
  simp
theorem Zsl (l : List Val) : Zf4 (l.length + 1) l = some (spL l) := by
  unfold Zf4
  refine Znt _ (fun z => some z) ?_ l _ (Nat.lt_succ_self _)
  intro l k
  cases l with
  | nil => rfl
  | cons v r =>
    simp only [Zfj, Yak, cond_true, Zwl, Option.bind_some, ZlK, sp]
    exact Bool.cond_eq_ite _ _ _
theorem ZsB {K : Zaa} (hK : Zc2 K) : Zap U (Zab C K) 67 ⟨true, [.ty 22], [22], fun l => some (spL l)⟩ :=
  Zjs (kf hK 67 (by decide)) _ fun a r h => by cases h; exact ⟨_, Zsl a⟩
def ZyI (l : List Val) : Option (List Val) := if Zaq l ≤ B then some (trL l) else none
theorem Zyn {l : List Val} (h : Zaq l ≤ B) : ZyI l = some (trL l) := if_pos h
theorem Zxb {l : List Val} {v : Val} (h : l.length < 2 ^ 62) : IntKind.i64.wrap (((l ++ [v]).length : Int) - 1) = (l.length : Int) := by
  rw [ZdE (by simp <;> omega) (by simp <;> omega)]; simp only [List.length_append, List.length_cons, List.length_nil]; omega
theorem ZzG {v : Val} {r : List Val} : decide (((r ++ [v]).length : Int) > 0) = true := by simp
theorem Zxa (l : List Val) (h : Zaq l ≤ B) : Zjd (fun l => some (spL l)) ((spL l).length + 1) l = some (trL l) := by
  have hB : B = 2 ^ 36 := rfl
  unfold Zjd
  simp only [Option.bind_some]
  have h1 := ZeS (spL l)
  have h2 := ZlG l
  refine ZwE _ (fun z => some z) ?_ ?_ _ (spL l) _ rfl (Nat.lt_succ_self _) (by omega)
  · intro k; rfl
  · intro l v k hl
    simp only [ZgQ, ZzG, cond_true, Zxb hl, ZxJ, Option.bind_some, Zv7, sp]
    exact Bool.cond_eq_ite _ _ _
theorem YdQ {K : Zaa} (hK : Zc2 K) : Zap U (Zab C K) 68 ⟨true, [.ty 22], [22], ZyI⟩ :=
  Zlb (kf hK 68 (by decide)) _ (ZsB hK) _ fun a r h => by
    unfold ZyI at h
    split at h
    · rename_i h3; cases h; exact ⟨_, Zxa a h3⟩
    · cases h
end Go.Tev.S1
namespace Go.Tev.S1
open Go.Abs Go.Proofs
def Zm6 (v : Val) : Option (List UInt8 × List Val × Bool) := if v.tot ≤ B then some (Zav v.l) else none
theorem Zl7 {v : Val} (h : v.tot ≤ B) : Zm6 v = some (Zav v.l) := if_pos h
theorem Zs7 {α : Type} {v : α} {r : List α} : (((v :: r).length : Int) == 0) = false := by simp; omega
theorem ZuZ (v : Val) (h : v.tot ≤ B) : ZhA (fun l => some (spL l)) (fun p => some (ZbY p)) ZyI 0 v = some (Zav v.l) := by
  have he := v.tot_eq
  have hs := ZlG v.l
  unfold ZhA Zav
  simp only [Option.bind_some]
  cases e : spL v.l with
  | nil => rfl
  | cons x r =>
    rw [e] at hs
    simp only [Zaq] at hs
    have hs2 := ZlG r
    simp only [Zs7, Bool.not_false, cond_true, cond_false, Zwl, Option.bind_some, ZlK]
    by_cases h1 : x.tok.k = 1
    · have e1 : (x.tok.k != 1) = false := by simpa using h1
      by_cases h2 : ZbY x.tok.t = true
      · rw [if_pos ⟨h1, h2⟩]
        simp only [e1, h2, Bool.not_false, Bool.not_true, cond_true, cond_false, Option.bind_some]
        cases e3 : spL r with
        | nil => rfl
        | cons y s =>
          rw [e3] at hs2
          simp only [Zaq] at hs2
          simp only [Zs7, cond_false, Zwl, Option.bind_some, ZlK, Zyn (show Zaq s ≤ B by omega)]
          by_cases h4 : y.tok.k = 18
          · rw [if_pos h4, h4]; rfl
          · have e4 : (y.tok.k == 18) = false := by simpa using h4
            rw [if_neg h4, e4]; rfl
      · rw [if_neg (fun hh => h2 hh.2)]
        have h2' : ZbY x.tok.t = false := (Bool.not_eq_true _).mp h2
        simp only [e1, h2', Bool.not_false, cond_true, cond_false, Option.bind_some]
    · have e1 : (x.tok.k != 1) = true := by simpa using h1
      rw [if_neg (fun hh => h1 hh.1)]
      simp only [e1, Bool.not_true, cond_true, cond_false, Option.bind_some]
theorem Zsg {K : Zaa} (hK : Zc2 K) : Zap U (Zab C K) 56 ⟨true, [.ty 51], [9, 22, 4], Zm6⟩ :=
  Zkn (kf hK 56 (by decide)) _ _ _ (ZsB hK) (Zue hK) (YdQ hK) _ fun a r h => by
    unfold Zm6 at h
    split at h
    · rename_i h3; cases h; exact ⟨0, ZuZ a h3⟩
    · cases h
end Go.Tev.S1
namespace Go.Tev
open Go.Abs
abbrev V : Nat := 2 ^ 24
abbrev Lk := List UInt8 → Option (List Val)
theorem ZrT (v : Val) (r : List Val) : Zaq r < Zaq (v :: r) := by
  simp only [Zaq, Val.tot_eq]; omega
theorem Zs5 (v : Val) (r : List Val) : Zaq v.l < Zaq (v :: r) := by
  simp only [Zaq, Val.tot_eq]; omega
theorem Zl2 (v : Val) (r : List Val) : Zaq (Zav v.l).2.1 < Zaq (v :: r) :=
  Nat.lt_of_le_of_lt (ZiA v.l) (Zs5 v r)
def ZkO (a b : Option Nat) : Option Nat := match a, b with
  | some m, some n => some (m + n)
  | _, _ => none
theorem ZeR {a b : Option Nat} {n : Nat} (h : ZkO a b = some n) : ∃ x y, a = some x ∧ b = some y ∧ n = x + y := by
  unfold ZkO at h
  split at h
  · exact ⟨_, _, rfl, rfl, (Option.some.inj h).symm⟩
  · cases h
def ZeK (lk : Lk) : List Val → Option Nat
  | [] => some 0
  | v :: r => ZkO (if v.ref then (match lk (Zav v.l).1 with
      | some x => some (Zaq x)
      | none => if (Zav v.l).2.2 then ZeK lk (Zav v.l).2.1 else none)
    else ZkO (some (1 + v.tok.t.length + v.tok.u.length)) (ZeK lk v.l)) (ZeK lk r)
termination_by l => Zaq l
decreasing_by
  · exact Zl2 v r
  · exact Zs5 v r
  · exact ZrT v r
def Zsh (lk : Lk) (v : Val) : Option Nat := if v.ref then (match lk (Zav v.l).1 with
      | some x => some (Zaq x)
      | none => if (Zav v.l).2.2 then ZeK lk (Zav v.l).2.1 else none)
    else ZkO (some (1 + v.tok.t.length + v.tok.u.length)) (ZeK lk v.l)
theorem ZnP {lk : Lk} {v : Val} (h : v.ref = false) : Zsh lk v = ZkO (some (1 + v.tok.t.length + v.tok.u.length)) (ZeK lk v.l) := by
  unfold Zsh; rw [if_neg (by rw [h]; decide)]
theorem Ztw {lk : Lk} {v : Val} {x : List Val} (h : v.ref = true) (h2 : lk (Zav v.l).1 = some x) : Zsh lk v = some (Zaq x) := by
  unfold Zsh; rw [if_pos h, h2]
theorem ZsM {lk : Lk} {v : Val} (h : v.ref = true) (h2 : lk (Zav v.l).1 = none) (h3 : (Zav v.l).2.2 = true) : Zsh lk v = ZeK lk (Zav v.l).2.1 := by
  unfold Zsh; rw [if_pos h, h2]; simp only [h3, if_true]
theorem ZsK {lk : Lk} {v : Val} (h : v.ref = true) (h2 : lk (Zav v.l).1 = none) (h3 : (Zav v.l).2.2 = false) : Zsh lk v = none := by
  unfold Zsh; rw [if_pos h, h2]; simp [h3]
theorem ZdH (lk : Lk) : ZeK lk [] = some 0 := by rw [ZeK]
theorem ZcK (lk : Lk) (v : Val) (r : List Val) : ZeK lk (v :: r) = ZkO (Zsh lk v) (ZeK lk r) := by rw [ZeK]; rfl
theorem Zu5 (a b c : Option Nat) : ZkO (ZkO a b) c = ZkO a (ZkO b c) := by
  cases a <;> cases b <;> cases c <;> simp [ZkO, Nat.add_assoc]
theorem Zxg (a : Option Nat) : ZkO (some 0) a = a := by cases a <;> simp [ZkO]
theorem Zur (a : Option Nat) : ZkO a (some 0) = a := by cases a <;> simp [ZkO]
theorem Zh5 (lk : Lk) (a b : List Val) : ZeK lk (a ++ b) = ZkO (ZeK lk a) (ZeK lk b) := by
  induction a with
  | nil => rw [ZdH, Zxg]; rfl
  | cons v a ih => rw [List.cons_append, ZcK, ZcK, ih, Zu5]
theorem Zw8 (lk : Lk) (a : List Val) (v : Val) : ZeK lk (a ++ [v]) = ZkO (ZeK lk a) (Zsh lk v) := by
  rw [Zh5, ZcK, ZdH, Zur]
def Zek (lk : Lk) : List Val → List Val
  | [] => []
  | v :: r => (if v.ref then (match lk (Zav v.l).1 with
      | some x => x
      | none => Zek lk (Zav v.l).2.1)
    else [Val.mk v.tok (Zek lk v.l)]) ++ Zek lk r
termination_by l => Zaq l
decreasing_by
  · exact Zl2 v r
  · exact Zs5 v r
  · exact ZrT v r
def ZuP (lk : Lk) (v : Val) : List Val := if v.ref then (match lk (Zav v.l).1 with
      | some x => x
      | none => Zek lk (Zav v.l).2.1)
    else [Val.mk v.tok (Zek lk v.l)]
theorem ZrD {lk : Lk} {v : Val} (h : v.ref = false) : ZuP lk v = [Val.mk v.tok (Zek lk v.l)] := by
  unfold ZuP; rw [if_neg (by rw [h]; decide)]
theorem ZzH {lk : Lk} {v : Val} {x : List Val} (h : v.ref = true) (h2 : lk (Zav v.l).1 = some x) : ZuP lk v = x := by
  unfold ZuP; rw [if_pos h, h2]
theorem Zy0 {lk : Lk} {v : Val} (h : v.ref = true) (h2 : lk (Zav v.l).1 = none) : ZuP lk v = Zek lk (Zav v.l).2.1 := by
  unfold ZuP; rw [if_pos h, h2]
theorem Zfc (lk : Lk) : Zek lk [] = [] := by rw [Zek]
theorem Zee (lk : Lk) (v : Val) (r : List Val) : Zek lk (v :: r) = ZuP lk v ++ Zek lk r := by rw [Zek]; rfl
theorem Zrr (lk : Lk) (a b : List Val) : Zek lk (a ++ b) = Zek lk a ++ Zek lk b := by
  induction a with
  | nil => rw [Zfc]; rfl
  | cons v a ih => rw [List.cons_append, Zee, Zee, ih, List.append_assoc]
theorem ZqP (lk : Lk) (a : List Val) (v : Val) : Zek lk (a ++ [v]) = Zek lk a ++ ZuP lk v := by
  rw [Zrr, Zee, Zfc, List.append_nil]
theorem Zhu (P : List Val → Prop) (h0 : P []) (h1 : ∀ v r, P r → P v.l → P (Zav v.l).2.1 → P (v :: r)) : ∀ l, P l := by
  have : ∀ (n : Nat) l, Zaq l < n → P l := by
    intro n
    induction n with
    | zero => intro l h; omega
    | succ n ih =>
      intro l h
      cases l with
      | nil => exact h0
      | cons v r =>
        have a1 := ZrT v r
        have a2 := Zs5 v r
        have a3 := Zl2 v r
        exact h1 v r (ih _ (by omega)) (ih _ (by omega)) (ih _ (by omega))
  exact fun l => this _ l (Nat.lt_succ_self _)
theorem ZxX (lk : Lk) : ∀ l m, ZeK lk l = some m → Zaq (Zek lk l) = m := by
  refine Zhu _ ?_ ?_
  · intro m h
    rw [ZdH] at h
    cases h
    rw [Zfc]; rfl
  · intro v r h1 h2 h3 m h
    rw [ZcK] at h
    obtain ⟨x, y, hx, hy, rfl⟩ := ZeR h
    rw [Zee, ZeI, h1 y hy]
    congr 1
    unfold Zsh at hx
    unfold ZuP
    split at hx
    · rename_i hv
      rw [if_pos hv]
      split at hx
      · rename_i z hz
        exact Option.some.inj hx
      · rename_i hz
        split at hx
        · exact h3 x hx
        · cases hx
    · rename_i hv
      rw [if_neg hv]
      obtain ⟨a, b, ha, hb, rfl⟩ := ZeR hx
      cases ha
      simp only [Zaq, Val.tot, h2 b hb]
      rfl
theorem Yd0 (lk : Lk) (W : Nat) (hW : 1 ≤ W) (hlk : ∀ n x, lk n = some x → Zaq x ≤ W) : ∀ l m, ZeK lk l = some m → m ≤ Zaq l * W := by
  refine Zhu _ ?_ ?_
  · intro m h
    rw [ZdH] at h
    cases h
    omega
  · intro v r h1 h2 h3 m h
    rw [ZcK] at h
    obtain ⟨x, y, hx, hy, rfl⟩ := ZeR h
    have hr := h1 y hy
    simp only [Zaq, Nat.add_mul]
    suffices x ≤ v.tot * W by omega
    have ht : 1 * W ≤ v.tot * W := Nat.mul_le_mul_right _ (by rw [Val.tot_eq]; omega)
    unfold Zsh at hx
    split at hx
    · split at hx
      · rename_i z hz
        have := hlk _ _ hz
        cases hx
        omega
      · split at hx
        · have h4 := h3 x hx
          have h5 : Zaq (Zav v.l).2.1 * W ≤ v.tot * W := Nat.mul_le_mul_right _ (by have := ZiA v.l; rw [Val.tot_eq]; omega)
          omega
        · cases hx
    · obtain ⟨a, b, ha, hb, rfl⟩ := ZeR hx
      cases ha
      have h4 := h2 b hb
      rw [Val.tot_eq, Nat.add_mul (1 + v.tok.t.length + v.tok.u.length)]
      have h5 : (1 + v.tok.t.length + v.tok.u.length) * 1 ≤ (1 + v.tok.t.length + v.tok.u.length) * W := Nat.mul_le_mul_left _ hW
      omega
theorem Yah (lk : Lk) : ∀ l, ZbR l = false → Zek lk l = l := by
  refine Zhu _ ?_ ?_
  · intro h; exact Zfc lk
  · intro v r h1 h2 h3 h
    rw [ZbR, Bool.or_eq_false_iff, Val.hasv_eq, Bool.or_eq_false_iff] at h
    rw [Zee, h1 h.2, ZuP, if_neg (by rw [h.1.1]; decide), h2 h.1.2, Val.eta]
    rfl
theorem Zty (lk : Lk) : ∀ l, ZbR l = false → ZeK lk l = some (Zaq l) := by
  refine Zhu _ ?_ ?_
  · intro h; exact ZdH lk
  · intro v r h1 h2 h3 h
    rw [ZbR, Bool.or_eq_false_iff, Val.hasv_eq, Bool.or_eq_false_iff] at h
    rw [ZcK, h1 h.2, Zsh, if_neg (by rw [h.1.1]; decide), h2 h.1.2]
    simp only [ZkO, Zaq, Val.tot_eq]
def lkM (m : List (List UInt8 × List Val)) : Lk := fun n => Za7 BEq.beq n m
def lkC : List Cus → Lk
  | [], _ => none
  | c :: r, n => if c.name == n then some c.val else lkC r n
def Zc7 : List Cus → List UInt8 → Int → Int
  | [], _, _ => -1
  | c :: r, n, i => if c.name == n then i else Zc7 r n (i + 1)
theorem ZwZ {m : List (List UInt8 × List Val)} {n : List UInt8} {x : List Val} (h : lkM m n = some x) : ∃ p ∈ m, p.2 = x := by
  induction m with
  | nil => cases h
  | cons p m ih =>
    obtain ⟨k, v⟩ := p
    simp only [lkM, Za7] at h
    cases e : (n == k) <;> rw [e] at h
    · obtain ⟨q, hq, hx⟩ := ih h
      exact ⟨q, List.mem_cons_of_mem _ hq, hx⟩
    · cases h
      exact ⟨_, List.mem_cons_self, rfl⟩
theorem Zuv (c : List Cus) (n : List UInt8) : ∀ (i : Nat), (Zc7 c n i = -1 ∧ lkC c n = none) ∨ (∃ j x, Zc7 c n i = ((i + j : Nat) : Int) ∧ c[j]? = some x ∧ lkC c n = some x.val) := by
  induction c with
  | nil => intro i; exact .inl ⟨rfl, rfl⟩
  | cons p c ih =>
    intro i
    simp only [Zc7, lkC]
    by_cases h : (p.name == n) = true
    · rw [if_pos h, if_pos h]
      exact .inr ⟨0, p, rfl, rfl, rfl⟩
    · rw [if_neg h, if_neg h]
      rcases ih (i + 1) with ⟨h1, h2⟩ | ⟨j, x, h1, h2, h3⟩
      · exact .inl ⟨h1, h2⟩
      · refine .inr ⟨j + 1, x, ?_, h2, h3⟩
        have : (i : Int) + 1 = ((i + 1 : Nat) : Int) := rfl
        rw [this, h1]
        omega
end Go.Tev
namespace Go.Tev
open Go.Abs
section
variable {x : Cx} {ρ : List Rf} {h0 : Base} {s : TSt x.X} {a : St}
def LawP (x : Cx) (h0 : Base) (call : Zaa) (fa : FA) (n m : Nat) (c : Code) {R : Type} (L : Ya4 x.U R) : Prop := ∀ (k : TOut x.X → Option R) (s : TSt x.X) (z : R), s.tmp = [] → L k s = some z → ∀ e0 ρ a, (∀ t, (Zad s.env t).isSome = true → (Zad e0 t).isSome = true) → Rel x.U ρ h0 s a →
  ∃ o' o σ, k o' = some z ∧ iter (evQ x.C call fa n c) e0 m a = some o ∧ TORel x σ h0 o' o
end
section
variable {C : Ctx} {call : Zaa} {fa : FA}
theorem ZlP {f : St → Option Out} {e0 : List (Nat × SV)} : ∀ (m : Nat) (st : St) (o : Out), iter f e0 m st = some o → iter f e0 (m + 1) st = some o
  | 0, st, o, h => by cases h
  | m + 1, st, o, h => by
    rw [iter] at h ⊢
    split at h
    · exact ZlP m _ o h
    · exact h
theorem Ztn (n : Nat) : ∀ (c : Code) (st : St) (o : Out), evQ C call fa n c st = some o → evQ C call fa (n + 1) c st = some o := by
  intro c
  induction c with
  | seq p q ihp ihq =>
    intro st o h
    simp only [evQ] at h ⊢
    split at h
    · rename_i st' hs
      rw [ihp _ _ hs]
      exact ihq _ _ h
    · rename_i r hn
      rw [ihp _ _ h]
      split
      · rename_i st' hs
        cases hs
        exact absurd h (hn st')
      · rfl
  | cond c p q ihp ihq =>
    intro st o h
    simp only [evQ] at h ⊢
    split at h
    · rename_i t ht
      cases t with
      | true => exact ihp _ _ h
      | false => exact ihq _ _ h
    · cases h
  | block i c ih =>
    intro st o h
    simp only [evQ] at h ⊢
    cases hq : evQ C call fa n c st with
    | none => rw [hq] at h; cases h
    | some o1 =>
      rw [hq] at h
      rw [ih _ _ hq]
      exact h
  | loop c ih =>
    intro st o h
    simp only [evQ] at h ⊢
    exact ZlP _ _ _ (Zir (fun st o hh => ih st o hh) _ _ _ h)
  | _ => intro st o h; exact h
end
section
variable {x : Cx} {h0 : Base}
theorem LawP.succ {call : Zaa} {fa : FA} {n m : Nat} {c : Code} {R : Type} {L : Ya4 x.U R} (h : LawP x h0 call fa n m c L) : LawP x h0 call fa (n + 1) m c L := fun k s z ht hz e0 ρ a hc r => by
  obtain ⟨o', o, σ, h1, h2, h3⟩ := h k s z ht hz e0 ρ a hc r
  exact ⟨o', o, σ, h1, Zir (fun st o hh => Ztn n c st o hh) _ _ _ h2, h3⟩
theorem Law.succ {call : Zaa} {fa : FA} {n : Nat} {c : Code} {R : Type} {L : Ya4 x.U R} (h : Law x h0 call fa n c L) : Law x h0 call fa (n + 1) c L := fun k s z ht hz ρ a r => by
  obtain ⟨o', o, σ, h1, h2, h3⟩ := h k s z ht hz ρ a r
  exact ⟨o', o, σ, h1, ZlP _ _ _ (Zir (fun st o hh => Ztn n c st o hh) _ _ _ h2), h3⟩
end
end Go.Tev
namespace Go.Tev.S1
open Go.Abs Go.Proofs
abbrev T3a : Type := Val → Option Bool
abbrev T3b : Type := Val → Option ((List UInt8) × (List Val) × Bool)
abbrev T3c : Type := (List Val) → ((List ((List UInt8) × Bool)) × Unit) → Option ((Unit) × ((List ((List UInt8) × Bool)) × Unit))
abbrev T3d : Type := List ((List UInt8) × Bool)
abbrev T3e : Type := (List Val) × (List ((List UInt8) × (List Val))) → Option Int
abbrev T3f : Type := (List Val) → Option Int
abbrev T3g : Type := (List Val) × (List ((List UInt8) × (List Val))) → Option (List Val)
abbrev T3h : Type := (List Val) → Option Bool
abbrev P3a (K : Zaa) (t : T3a) : Prop := Zap U (Zab C K) 55 ⟨true, [.ty 51], [4], t⟩
abbrev P3b (K : Zaa) (t : T3b) : Prop := Zap U (Zab C K) 56 ⟨true, [.ty 51], [9, 22, 4], t⟩
abbrev P3c (K : Zaa) (t : T3e) : Prop := Zap U (Zab C K) 53 ⟨true, [.ty 22, .ty 60], [3], t⟩
abbrev P3d (K : Zaa) (t : T3f) : Prop := Zap U (Zab C K) 44 ⟨true, [.ty 22], [3], t⟩
abbrev P3e (K : Zaa) (t : T3g) : Prop := Zap U (Zab C K) 54 ⟨true, [.ty 22, .ty 60], [22], t⟩
abbrev P3f (K : Zaa) (t : T3h) : Prop := Zap U (Zab C K) 14 ⟨true, [.ty 22], [4], t⟩
abbrev P3g (K : Zaa) (t : T3f) : Prop := Zap U (Zab C K) 33 ⟨true, [.ty 22], [28], t⟩
def Zdp (qa : T3a) (qb : T3b) (qc : T3c) {R : Type} (n : Nat) (_ : Unit) (a9 : List Val) (a10 : Int) (kx0 : (List ((List UInt8) × Bool)) → Option R) (y11 : Int) (h1 : List ((List UInt8) × Bool)) (k : Int → (List ((List UInt8) × Bool)) → Option R) : Option R :=
  cond (decide (y11 < a10))
  (Option.bind (Zeu a9 y11) fun x2 =>
  Option.bind (qa (Val.mk x2.tok x2.l)) fun r3 =>
  Option.bind (cond r3 (qb (Val.mk x2.tok x2.l)) (some ([], [], false))) fun r4 =>
  Option.bind (some (cond (r4.1 != []) x2.tok.k x2.tok.k)) fun m5 =>
  Option.bind (some (cond (r4.1 != []) x2.tok.t x2.tok.t)) fun m6 =>
  Option.bind (some (cond (r4.1 != []) x2.tok.n x2.tok.n)) fun m7 =>
  Option.bind (some (cond (r4.1 != []) x2.tok.u x2.tok.u)) fun m8 =>
  Option.bind (some (cond (r4.1 != []) x2.tok.f x2.tok.f)) fun m9 =>
  Option.bind (some (cond (r4.1 != []) x2.l x2.l)) fun m10 =>
  Option.bind (some (cond (r4.1 != []) (ZkS BEq.beq r4.1 true h1) h1)) fun m11 =>
  Option.bind (some (cond r3 m5 x2.tok.k)) fun m12 =>
  Option.bind (some (cond r3 m6 x2.tok.t)) fun m13 =>
  Option.bind (some (cond r3 m7 x2.tok.n)) fun m14 =>
  Option.bind (some (cond r3 m8 x2.tok.u)) fun m15 =>
  Option.bind (some (cond r3 m9 x2.tok.f)) fun m16 =>
  Option.bind (some (cond r3 m10 x2.l)) fun m17 =>
  Option.bind (some (cond r3 m11 h1)) fun m18 =>
  Option.bind (qc m17 (m18, ())) fun w19 =>
  k (IntKind.i64.wrap (y11 + (1 : Int))) w19.2.1)
  (kx0 h1)
def Ze2 (qa : T3a) (qb : T3b) (qc : T3c) (n : Nat) (p0 : List Val) (q1 : T3d) : Option ((Unit) × ((List ((List UInt8) × Bool)) × Unit)) :=
  Zff (Zdp qa qb qc n () p0 (p0.length : Int) (fun z1 =>
  some ((), (z1, ())))) n (0 : Int) q1
abbrev Zms (qa : T3a) (qb : T3b) (qc : T3c) : List (Nat × TCall X) := [(55, ⟨true, [.ty 51], [4], qa⟩), (56, ⟨true, [.ty 51], [9, 22, 4], qb⟩)]
noncomputable abbrev ZbT (qa : T3a) (qb : T3b) (qc : T3c) : Cx := ⟨C, U, Zms qa qb qc, [(36, ⟨[.ty 22, .ref (.map 9 4)], [], qc⟩)], fun _ => []⟩
theorem Zma : okF (C.ann 36) Tryz.f36 2 = true := by kernel_rfl
abbrev vars_collect_L0_D : LD := ⟨1, [.mp 1 0, .val 9 22, .val 10 2], [.val 11 2, .hmap 9 4], [(0, [.hmap 9 4])], []⟩
abbrev ZcE (qa : T3a) (qb : T3b) (qc : T3c) (n : Nat) : LG U (PX X [] × PR' X (AR.refs [.ty 22, .ref (.map 9 4)])) vars_collect_L0_D := fun c kx kr y k => Zdp qa qb qc n c.1 c.2.1 c.2.2.1 (fun z0 => kx 0 (z0, ())) y.1 y.2.1 (fun z0 z1 => k (z0, z1, ()))
noncomputable abbrev Zcx (qa : T3a) (qb : T3b) (qc : T3c) (n : Nat) : Zfm (ZbT qa qb qc) (PX X [] × PR' X (AR.refs [.ty 22, .ref (.map 9 4)])) := [(0, Zfl U vars_collect_L0_D (ZcE qa qb qc n) n)]
theorem ZjV (qa : T3a) (qb : T3b) (qc : T3c) (n : Nat) : ∀ c kx kr y k1, evL (ZbT qa qb qc) (ann 36) (Zcx qa qb qc n) 0 (Zao (Zac Tryz.f36) 0) (ZeL U vars_collect_L0_D kx kr k1) (encS U vars_collect_L0_D.cap vars_collect_L0_D.din c y) = ZcE qa qb qc n c (fun i z => kx i c z) kr y (fun y2 => k1 c y2) := by
  intro c kx kr y k1
  kernel_rfl
theorem ZmF (qa : T3a) (qb : T3b) (qc : T3c) (n : Nat) : ∀ a cs, fnR (ZbT qa qb qc) 36 Tryz.f36 [.ty 22, .ref (.map 9 4)] [] (Zcx qa qb qc n) a cs = Ze2 qa qb qc n a cs.1 := by
  intro a cs
  kernel_rfl
theorem ZgS {K : Zaa} (qa : T3a) (qb : T3b) (qc : T3c) (h0 : P3a K qa) (h1 : P3b K qb) (g0 : Zed U (Zab C K) 36 ⟨[.ty 22, .ref (.map 9 4)], [], qc⟩) : CallsOk (ZbT qa qb qc) (Zab C K) :=
  ⟨(Zah h0 (Zah h1 ZaF)), (ZxD g0 ZaG)⟩
theorem Zh9 {K : Zaa} (qa : T3a) (qb : T3b) (qc : T3c) (h0 : P3a K qa) (h1 : P3b K qb) (g0 : Zed U (Zab C K) 36 ⟨[.ty 22, .ref (.map 9 4)], [], qc⟩) (n : Nat) (b0 : Base) (bn0 : b0.nr ≤ 1) : Law (ZbT qa qb qc) b0 (Zab C K) (ann 36) n (Zao (Zac Tryz.f36) 0) (Zfl U vars_collect_L0_D (ZcE qa qb qc n) n) :=
  Zdt (x := ZbT qa qb qc) (id := 0) ok (ZgS qa qb qc h0 h1 g0) (sums := Zcx qa qb qc n) (Zau (show Zat 0 (Zao (Zac Tryz.f36) 0) = [] by kernel_rfl)) vars_collect_L0_D bn0 (ZcE qa qb qc n) (ZjV qa qb qc n)
theorem Zi6 {K : Zaa} (hK : ∀ args h, K 36 args h = none) (qa : T3a) (qb : T3b) (qc : T3c) (h0 : P3a K qa) (h1 : P3b K qb) (g0 : Zed U (Zab C K) 36 ⟨[.ty 22, .ref (.map 9 4)], [], qc⟩) (t : PX X (AR.tys [.ty 22, .ref (.map 9 4)]) → PR' X (AR.refs [.ty 22, .ref (.map 9 4)]) → Option (PX X [] × PR' X (AR.refs [.ty 22, .ref (.map 9 4)]))) (h : ∀ a cs r, t a cs = some r → ∃ n, Ze2 qa qb qc n a cs.1 = some r) : Zed U (Zab C K) 36 ⟨[.ty 22, .ref (.map 9 4)], [], t⟩ := by
  refine ZxZ (x := ZbT qa qb qc) (ak := [.ty 22, .ref (.map 9 4)]) (rts := []) ok (ZgS qa qb qc h0 h1 g0) hK Tryz.func36 Zma fun a cs r hr => ?_
  obtain ⟨n, hn⟩ := h a cs r hr
  exact ⟨n, Zcx qa qb qc n, fun b0 bn0 => (Zbq (ids := [0]) (by kernel_rfl) (by decide) (fun i hi => by
    simp only [List.mem_cons, List.not_mem_nil, or_false] at hi
    rcases hi with rfl
    · exact Zbg (c2 := Zao (Zac Tryz.f36) 0) (by kernel_rfl) (by kernel_rfl) (Zh9 qa qb qc h0 h1 g0 _ b0 bn0)
    )), (ZmF qa qb qc n a cs).trans hn⟩
def ZdB (qa : T3a) (qd : T3e) (qb : T3b) (qe : T3f) {R : Type} (n : Nat) (a1 : List ((List UInt8) × (List Val))) (a14 : List Val) (a15 : Int) (kx0 : Int → Int → Option R) (kr : Int → Option R) (y4 : Int) (y5 : Int) (y16 : Int) (k : Int → Int → Int → Option R) : Option R :=
  cond (decide (y16 < a15))
  (Option.bind (Zeu a14 y16) fun x4 =>
  Option.bind (qa (Val.mk x4.tok x4.l)) fun r5 =>
  Option.bind (cond (!r5) (qd (x4.l, a1)) (some (0 : Int))) fun r6 =>
  Option.bind (cond (!(!r5)) (qb (Val.mk x4.tok x4.l)) (some ([], [], false))) fun r7 =>
  Option.bind (cond ((!(!r5)) && ((Za7 BEq.beq r7.1 a1).isSome)) (qe (ZkB [] (Za7 BEq.beq r7.1 a1))) (some (0 : Int))) fun r8 =>
  Option.bind (cond (((!(!r5)) && (!((Za7 BEq.beq r7.1 a1).isSome))) && r7.2.2) (qd (r7.2.1, a1)) (some (0 : Int))) fun r9 =>
  Option.bind (some (cond r7.2.2 x4.tok.k x4.tok.k)) fun m10 =>
  Option.bind (some (cond r7.2.2 x4.tok.t x4.tok.t)) fun m11 =>
  Option.bind (some (cond r7.2.2 x4.tok.n x4.tok.n)) fun m12 =>
  Option.bind (some (cond r7.2.2 x4.tok.u x4.tok.u)) fun m13 =>
  Option.bind (some (cond r7.2.2 x4.tok.f x4.tok.f)) fun m14 =>
  Option.bind (some (cond r7.2.2 x4.l x4.l)) fun m15 =>
  Option.bind (some (cond r7.2.2 r9 (-1 : Int))) fun m16 =>
  Option.bind (some (cond ((Za7 BEq.beq r7.1 a1).isSome) x4.tok.k m10)) fun m17 =>
  Option.bind (some (cond ((Za7 BEq.beq r7.1 a1).isSome) x4.tok.t m11)) fun m18 =>
  Option.bind (some (cond ((Za7 BEq.beq r7.1 a1).isSome) x4.tok.n m12)) fun m19 =>
  Option.bind (some (cond ((Za7 BEq.beq r7.1 a1).isSome) x4.tok.u m13)) fun m20 =>
  Option.bind (some (cond ((Za7 BEq.beq r7.1 a1).isSome) x4.tok.f m14)) fun m21 =>
  Option.bind (some (cond ((Za7 BEq.beq r7.1 a1).isSome) x4.l m15)) fun m22 =>
  Option.bind (some (cond ((Za7 BEq.beq r7.1 a1).isSome) r8 m16)) fun m23 =>
  Option.bind (some (cond (!r5) (IntKind.i64.wrap (y5 + (IntKind.i64.wrap ((IntKind.i64.wrap ((1 : Int) + (x4.tok.t.length : Int))) + (x4.tok.u.length : Int))))) y5)) fun m24 =>
  Option.bind (some (cond (!r5) x4.tok.k m17)) fun m25 =>
  Option.bind (some (cond (!r5) x4.tok.t m18)) fun m26 =>
  Option.bind (some (cond (!r5) x4.tok.n m19)) fun m27 =>
  Option.bind (some (cond (!r5) x4.tok.u m20)) fun m28 =>
  Option.bind (some (cond (!r5) x4.tok.f m21)) fun m29 =>
  Option.bind (some (cond (!r5) x4.l m22)) fun m30 =>
  Option.bind (some (cond (!r5) r6 m23)) fun m31 =>
  cond (decide (m31 < (0 : Int)))
  (kr (-1 : Int))
  (k y4 (IntKind.i64.wrap (m24 + m31)) (IntKind.i64.wrap (y16 + (1 : Int)))))
  (kx0 y4 y5)
def ZeW (qa : T3a) (qd : T3e) (qb : T3b) (qe : T3f) (n : Nat) (p0 : List Val) (p1 : List ((List UInt8) × (List Val))) : Option Int :=
  Zoi (ZdB qa qd qb qe n p1 p0 (p0.length : Int) (fun z1 z2 =>
  some z2) (fun z3 =>
  some z3)) n (0 : Int) (0 : Int) (0 : Int)
abbrev Zmr (qa : T3a) (qd : T3e) (qb : T3b) (qe : T3f) : List (Nat × TCall X) := [(55, ⟨true, [.ty 51], [4], qa⟩), (53, ⟨true, [.ty 22, .ty 60], [3], qd⟩), (56, ⟨true, [.ty 51], [9, 22, 4], qb⟩), (44, ⟨true, [.ty 22], [3], qe⟩)]
noncomputable abbrev ZbS (qa : T3a) (qd : T3e) (qb : T3b) (qe : T3f) : Cx := ⟨C, U, Zmr qa qd qb qe, [], fun _ => []⟩
theorem Zlf : okF (C.ann 53) Tryz.f53 2 = true := by kernel_rfl
abbrev vars_measure_L0_D : LD := ⟨0, [.val 1 60, .val 14 22, .val 15 2], [.val 4 2, .val 5 2, .val 16 2], [(0, [.val 4 2, .val 5 2])], [.val 4 3]⟩
abbrev Zcz (qa : T3a) (qd : T3e) (qb : T3b) (qe : T3f) (n : Nat) : LG U (PX X [3]) vars_measure_L0_D := fun c kx kr y k => ZdB qa qd qb qe n c.1 c.2.1 c.2.2.1 (fun z0 z1 => kx 0 (z0, z1, ())) (fun z0 => kr (z0, ())) y.1 y.2.1 y.2.2.1 (fun z0 z1 z2 => k (z0, z1, z2, ()))
noncomputable abbrev ZcA (qa : T3a) (qd : T3e) (qb : T3b) (qe : T3f) (n : Nat) : Zfm (ZbS qa qd qb qe) (PX X [3]) := [(0, Zfl U vars_measure_L0_D (Zcz qa qd qb qe n) n)]
theorem Zju (qa : T3a) (qd : T3e) (qb : T3b) (qe : T3f) (n : Nat) : ∀ c kx kr y k1, evL (ZbS qa qd qb qe) (ann 53) (ZcA qa qd qb qe n) 0 (Zao (Zac Tryz.f53) 0) (ZeL U vars_measure_L0_D kx kr k1) (encS U vars_measure_L0_D.cap vars_measure_L0_D.din c y) = Zcz qa qd qb qe n c (fun i z => kx i c z) kr y (fun y2 => k1 c y2) := by
  intro c kx kr y k1
  kernel_rfl
theorem ZmN (qa : T3a) (qd : T3e) (qb : T3b) (qe : T3f) (n : Nat) : ∀ a, fnL (ZbS qa qd qb qe) true 53 Tryz.f53 [.ty 22, .ty 60] [3] (ZcA qa qd qb qe n) a = ZeW qa qd qb qe n a.1 a.2 := by
  intro a
  kernel_rfl
theorem ZgK {K : Zaa} (qa : T3a) (qd : T3e) (qb : T3b) (qe : T3f) (h0 : P3a K qa) (h1 : P3c K qd) (h2 : P3b K qb) (h3 : P3d K qe) : CallsOk (ZbS qa qd qb qe) (Zab C K) :=
  ⟨(Zah h0 (Zah h1 (Zah h2 (Zah h3 ZaF)))), ZaG⟩
theorem Zh7 {K : Zaa} (qa : T3a) (qd : T3e) (qb : T3b) (qe : T3f) (h0 : P3a K qa) (h1 : P3c K qd) (h2 : P3b K qb) (h3 : P3d K qe) (n : Nat) (b0 : Base) (bn0 : b0.nr ≤ 0) : Law (ZbS qa qd qb qe) b0 (Zab C K) (ann 53) n (Zao (Zac Tryz.f53) 0) (Zfl U vars_measure_L0_D (Zcz qa qd qb qe n) n) :=
  Zdt (x := ZbS qa qd qb qe) (id := 0) ok (ZgK qa qd qb qe h0 h1 h2 h3) (sums := ZcA qa qd qb qe n) (Zau (show Zat 0 (Zao (Zac Tryz.f53) 0) = [] by kernel_rfl)) vars_measure_L0_D bn0 (Zcz qa qd qb qe n) (Zju qa qd qb qe n)
theorem ZiE {K : Zaa} (hK : ∀ args h, K 53 args h = none) (qa : T3a) (qd : T3e) (qb : T3b) (qe : T3f) (h0 : P3a K qa) (h1 : P3c K qd) (h2 : P3b K qb) (h3 : P3d K qe) (t : PX X (AK.tys [.ty 22, .ty 60]) → Option (PX X [3])) (h : ∀ a r, t a = some r → ∃ n, ZeW qa qd qb qe n a.1 a.2 = some r) : Zap U (Zab C K) 53 ⟨true, [.ty 22, .ty 60], [3], t⟩ := by
  refine Zax (x := ZbS qa qd qb qe) (ak := [.ty 22, .ty 60]) (rts := [3]) (dir := true) ok (ZgK qa qd qb qe h0 h1 h2 h3) hK Tryz.func53 Zlf fun a r hr => ?_
  obtain ⟨n, hn⟩ := h a r hr
  exact ⟨n, ZcA qa qd qb qe n, (Zbq (ids := [0]) (by kernel_rfl) (by decide) (fun i hi => by
    simp only [List.mem_cons, List.not_mem_nil, or_false] at hi
    rcases hi with rfl
    · exact Zbg (c2 := Zao (Zac Tryz.f53) 0) (by kernel_rfl) (by kernel_rfl) (Zh7 qa qd qb qe h0 h1 h2 h3 _ _ (Nat.le_refl _))
    )), (ZmN qa qd qb qe n a).trans hn⟩
def ZfN (qa : T3a) (qf : T3g) (qb : T3b) {R : Type} (n : Nat) (a1 : List ((List UInt8) × (List Val))) (a4 : List Val) (a13 : List Val) (a14 : Int) (kx0 : List Val → Option R) (y5 : List Val) (y15 : Int) (k : List Val → Int → Option R) : Option R :=
  cond (decide (y15 < a14))
  (Option.bind (Zeu a13 y15) fun x2 =>
  Option.bind (qa (Val.mk x2.tok x2.l)) fun r3 =>
  cond (!r3)
  (Option.bind (qf (x2.l, a1)) fun r4 =>
  Option.bind (Option.bind (room 80 (y5.length + [(Val.mk x2.tok r4)].length)) (fun _ => some (y5 ++ [(Val.mk x2.tok r4)]))) fun o5 =>
  k o5 (IntKind.i64.wrap (y15 + (1 : Int))))
  (Option.bind (qb (Val.mk x2.tok x2.l)) fun r6 =>
  Option.bind (some (cond ((Za7 BEq.beq r6.1 a1).isSome) y5 y5)) fun m7 =>
  Option.bind (some (cond ((Za7 BEq.beq r6.1 a1).isSome) x2.tok.k x2.tok.k)) fun m8 =>
  Option.bind (some (cond ((Za7 BEq.beq r6.1 a1).isSome) x2.tok.t x2.tok.t)) fun m9 =>
  Option.bind (some (cond ((Za7 BEq.beq r6.1 a1).isSome) x2.tok.n x2.tok.n)) fun m10 =>
  Option.bind (some (cond ((Za7 BEq.beq r6.1 a1).isSome) x2.tok.u x2.tok.u)) fun m11 =>
  Option.bind (some (cond ((Za7 BEq.beq r6.1 a1).isSome) x2.tok.f x2.tok.f)) fun m12 =>
  Option.bind (some (cond ((Za7 BEq.beq r6.1 a1).isSome) x2.l x2.l)) fun m13 =>
  Option.bind (some (cond ((Za7 BEq.beq r6.1 a1).isSome) (ZkB [] (Za7 BEq.beq r6.1 a1)) r6.2.1)) fun m14 =>
  Option.bind (qf (m14, a1)) fun r15 =>
  Option.bind (Option.bind (room 80 (m7.length + r15.length)) (fun _ => some (m7 ++ r15))) fun o16 =>
  k o16 (IntKind.i64.wrap (y15 + (1 : Int)))))
  (kx0 y5)
def ZkJ (qa : T3a) (qf : T3g) (qb : T3b) (n : Nat) (p0 : List Val) (p1 : List ((List UInt8) × (List Val))) : Option (List Val) :=
  Zff (ZfN qa qf qb n p1 [] p0 (p0.length : Int) (fun z1 =>
  some z1)) n [] (0 : Int)
abbrev ZuY (qa : T3a) (qf : T3g) (qb : T3b) : List (Nat × TCall X) := [(55, ⟨true, [.ty 51], [4], qa⟩), (54, ⟨true, [.ty 22, .ty 60], [22], qf⟩), (56, ⟨true, [.ty 51], [9, 22, 4], qb⟩)]
noncomputable abbrev ZdU (qa : T3a) (qf : T3g) (qb : T3b) : Cx := ⟨C, U, ZuY qa qf qb, [], fun _ => []⟩
theorem Zr7 : okF (C.ann 54) Tryz.f54 2 = true := by kernel_rfl
abbrev vars_put_L0_D : LD := ⟨0, [.val 1 60, .val 4 22, .val 13 22, .val 14 2], [.own 5 51, .val 15 2], [(0, [.own 5 51])], []⟩
abbrev Zev (qa : T3a) (qf : T3g) (qb : T3b) (n : Nat) : LG U (PX X [22]) vars_put_L0_D := fun c kx kr y k => ZfN qa qf qb n c.1 c.2.1 c.2.2.1 c.2.2.2.1 (fun z0 => kx 0 (z0, ())) y.1 y.2.1 (fun z0 z1 => k (z0, z1, ()))
noncomputable abbrev Zem (qa : T3a) (qf : T3g) (qb : T3b) (n : Nat) : Zfm (ZdU qa qf qb) (PX X [22]) := [(0, Zfl U vars_put_L0_D (Zev qa qf qb n) n)]
theorem ZoD (qa : T3a) (qf : T3g) (qb : T3b) (n : Nat) : ∀ c kx kr y k1, evL (ZdU qa qf qb) (ann 54) (Zem qa qf qb n) 0 (Zao (Zac Tryz.f54) 0) (ZeL U vars_put_L0_D kx kr k1) (encS U vars_put_L0_D.cap vars_put_L0_D.din c y) = Zev qa qf qb n c (fun i z => kx i c z) kr y (fun y2 => k1 c y2) := by
  intro c kx kr y k1
  kernel_rfl
theorem Zuw (qa : T3a) (qf : T3g) (qb : T3b) (n : Nat) : ∀ a, fnL (ZdU qa qf qb) true 54 Tryz.f54 [.ty 22, .ty 60] [22] (Zem qa qf qb n) a = ZkJ qa qf qb n a.1 a.2 := by
  intro a
  kernel_rfl
theorem ZlV {K : Zaa} (qa : T3a) (qf : T3g) (qb : T3b) (h0 : P3a K qa) (h1 : P3e K qf) (h2 : P3b K qb) : CallsOk (ZdU qa qf qb) (Zab C K) :=
  ⟨(Zah h0 (Zah h1 (Zah h2 ZaF))), ZaG⟩
theorem Zmc {K : Zaa} (qa : T3a) (qf : T3g) (qb : T3b) (h0 : P3a K qa) (h1 : P3e K qf) (h2 : P3b K qb) (n : Nat) (b0 : Base) (bn0 : b0.nr ≤ 0) : Law (ZdU qa qf qb) b0 (Zab C K) (ann 54) n (Zao (Zac Tryz.f54) 0) (Zfl U vars_put_L0_D (Zev qa qf qb n) n) :=
  Zdt (x := ZdU qa qf qb) (id := 0) ok (ZlV qa qf qb h0 h1 h2) (sums := Zem qa qf qb n) (Zau (show Zat 0 (Zao (Zac Tryz.f54) 0) = [] by kernel_rfl)) vars_put_L0_D bn0 (Zev qa qf qb n) (ZoD qa qf qb n)
theorem Zmz {K : Zaa} (hK : ∀ args h, K 54 args h = none) (qa : T3a) (qf : T3g) (qb : T3b) (h0 : P3a K qa) (h1 : P3e K qf) (h2 : P3b K qb) (t : PX X (AK.tys [.ty 22, .ty 60]) → Option (PX X [22])) (h : ∀ a r, t a = some r → ∃ n, ZkJ qa qf qb n a.1 a.2 = some r) : Zap U (Zab C K) 54 ⟨true, [.ty 22, .ty 60], [22], t⟩ := by
  refine Zax (x := ZdU qa qf qb) (ak := [.ty 22, .ty 60]) (rts := [22]) (dir := true) ok (ZlV qa qf qb h0 h1 h2) hK Tryz.func54 Zr7 fun a r hr => ?_
  obtain ⟨n, hn⟩ := h a r hr
  exact ⟨n, Zem qa qf qb n, (Zbq (ids := [0]) (by kernel_rfl) (by decide) (fun i hi => by
    simp only [List.mem_cons, List.not_mem_nil, or_false] at hi
    rcases hi with rfl
    · exact Zbg (c2 := Zao (Zac Tryz.f54) 0) (by kernel_rfl) (by kernel_rfl) (Zmc qa qf qb h0 h1 h2 _ _ (Nat.le_refl _))
    )), (Zuw qa qf qb n a).trans hn⟩
def ZeX (qd : T3e) (qg : T3h) (qf : T3g) (qh : T3f) (n : Nat) (p0 : List Val) (p1 : List ((List UInt8) × (List Val))) : Option ((List Val) × Int) :=
  Option.bind (qd (p0, p1)) fun r1 =>
  cond (decide (r1 < (0 : Int)))
  (some ([], (6 : Int)))
  (Option.bind (cond (decide (r1 > (2000 : Int))) (qg p0) (some false)) fun r2 =>
  Option.bind (some (cond (decide (r1 > (2000 : Int))) r2 false)) fun m3 =>
  cond m3
  (some ([], (28 : Int)))
  (Option.bind (qf (p0, p1)) fun r4 =>
  Option.bind (qh r4) fun r5 =>
  cond (r5 != (0 : Int))
  (some ([], r5))
  (some (r4, (0 : Int)))))
abbrev Zmj (qd : T3e) (qg : T3h) (qf : T3g) (qh : T3f) : List (Nat × TCall X) := [(53, ⟨true, [.ty 22, .ty 60], [3], qd⟩), (14, ⟨true, [.ty 22], [4], qg⟩), (54, ⟨true, [.ty 22, .ty 60], [22], qf⟩), (33, ⟨true, [.ty 22], [28], qh⟩)]
noncomputable abbrev Zd2 (qd : T3e) (qg : T3h) (qf : T3g) (qh : T3f) : Cx := ⟨C, U, Zmj qd qg qf qh, [], fun _ => []⟩
theorem Zk5 : okF (C.ann 34) Tryz.f34 2 = true := by kernel_rfl
noncomputable abbrev Zfn (qd : T3e) (qg : T3h) (qf : T3g) (qh : T3f) (n : Nat) : Zfm (Zd2 qd qg qf qh) (PX X [22, 28]) := []
theorem ZmM (qd : T3e) (qg : T3h) (qf : T3g) (qh : T3f) (n : Nat) : ∀ a, fnL (Zd2 qd qg qf qh) true 34 Tryz.f34 [.ty 22, .ty 60] [22, 28] (Zfn qd qg qf qh n) a = ZeX qd qg qf qh n a.1 a.2 := by
  intro a
  kernel_rfl
theorem ZlB {K : Zaa} (qd : T3e) (qg : T3h) (qf : T3g) (qh : T3f) (h0 : P3c K qd) (h1 : P3f K qg) (h2 : P3e K qf) (h3 : P3g K qh) : CallsOk (Zd2 qd qg qf qh) (Zab C K) :=
  ⟨(Zah h0 (Zah h1 (Zah h2 (Zah h3 ZaF)))), ZaG⟩
theorem Zip {K : Zaa} (hK : ∀ args h, K 34 args h = none) (qd : T3e) (qg : T3h) (qf : T3g) (qh : T3f) (h0 : P3c K qd) (h1 : P3f K qg) (h2 : P3e K qf) (h3 : P3g K qh) (t : PX X (AK.tys [.ty 22, .ty 60]) → Option (PX X [22, 28])) (h : ∀ a r, t a = some r → ∃ n, ZeX qd qg qf qh n a.1 a.2 = some r) : Zap U (Zab C K) 34 ⟨true, [.ty 22, .ty 60], [22, 28], t⟩ := by
  refine Zax (x := Zd2 qd qg qf qh) (ak := [.ty 22, .ty 60]) (rts := [22, 28]) (dir := true) ok (ZlB qd qg qf qh h0 h1 h2 h3) hK Tryz.func34 Zk5 fun a r hr => ?_
  obtain ⟨n, hn⟩ := h a r hr
  exact ⟨n, Zfn qd qg qf qh n, (Zau (show Zat 0 (Zac Tryz.f34) = [] by kernel_rfl)), (ZmM qd qg qf qh n a).trans hn⟩
def Zez {R : Type} (n : Nat) (a0 : List Cus) (a1 : List UInt8) (kx0 : Int → Option R) (kr : Int → Option R) (y4 : Int) (y5 : Int) (k : Int → Int → Option R) : Option R :=
  cond (decide (y5 < (a0.length : Int)))
  (Option.bind (Zeu a0 y5) fun x3 =>
  cond (x3.name == a1)
  (kr y5)
  (k y4 (IntKind.i64.wrap (y5 + (1 : Int)))))
  (kx0 y4)
def Zho (n : Nat) (p0 : List Cus) (p1 : List UInt8) : Option Int :=
  Zff (Zez n p0 p1 (fun z1 =>
  some (-1 : Int)) (fun z2 =>
  some z2)) n (0 : Int) (0 : Int)
abbrev Zp3 : List (Nat × TCall X) := []
noncomputable abbrev Zcn : Cx := ⟨C, U, Zp3 , [], fun _ => []⟩
theorem ZnX : okF (C.ann 17) Tryz.f17 2 = true := by kernel_rfl
abbrev ref30_Find_L0_D : LD := ⟨0, [.val 0 23, .val 1 9], [.val 4 2, .val 5 2], [(0, [.val 4 2])], [.val 4 3]⟩
abbrev ZdD (n : Nat) : LG U (PX X [3]) ref30_Find_L0_D := fun c kx kr y k => Zez n c.1 c.2.1 (fun z0 => kx 0 (z0, ())) (fun z0 => kr (z0, ())) y.1 y.2.1 (fun z0 z1 => k (z0, z1, ()))
noncomputable abbrev Zdu (n : Nat) : Zfm (Zcn ) (PX X [3]) := [(0, Zfl U ref30_Find_L0_D (ZdD n) n)]
theorem Zl5 (n : Nat) : ∀ c kx kr y k1, evL (Zcn ) (ann 17) (Zdu n) 0 (Zao (Zac Tryz.f17) 0) (ZeL U ref30_Find_L0_D kx kr k1) (encS U ref30_Find_L0_D.cap ref30_Find_L0_D.din c y) = ZdD n c (fun i z => kx i c z) kr y (fun y2 => k1 c y2) := by
  intro c kx kr y k1
  kernel_rfl
theorem Zri (n : Nat) : ∀ a, fnL (Zcn ) true 17 Tryz.f17 [.ty 23, .ty 9] [3] (Zdu n) a = Zho n a.1 a.2 := by
  intro a
  kernel_rfl
theorem ZiK {K : Zaa} : CallsOk (Zcn ) (Zab C K) :=
  ⟨ZaF, ZaG⟩
theorem ZjN {K : Zaa} (n : Nat) (b0 : Base) (bn0 : b0.nr ≤ 0) : Law (Zcn ) b0 (Zab C K) (ann 17) n (Zao (Zac Tryz.f17) 0) (Zfl U ref30_Find_L0_D (ZdD n) n) :=
  Zdt (x := Zcn ) (id := 0) ok (ZiK ) (sums := Zdu n) (Zau (show Zat 0 (Zao (Zac Tryz.f17) 0) = [] by kernel_rfl)) ref30_Find_L0_D bn0 (ZdD n) (Zl5 n)
theorem Zkq {K : Zaa} (hK : ∀ args h, K 17 args h = none) (t : PX X (AK.tys [.ty 23, .ty 9]) → Option (PX X [3])) (h : ∀ a r, t a = some r → ∃ n, Zho n a.1 a.2 = some r) : Zap U (Zab C K) 17 ⟨true, [.ty 23, .ty 9], [3], t⟩ := by
  refine Zax (x := Zcn ) (ak := [.ty 23, .ty 9]) (rts := [3]) (dir := true) ok (ZiK ) hK Tryz.func17 ZnX fun a r hr => ?_
  obtain ⟨n, hn⟩ := h a r hr
  exact ⟨n, Zdu n, (Zbq (ids := [0]) (by kernel_rfl) (by decide) (fun i hi => by
    simp only [List.mem_cons, List.not_mem_nil, or_false] at hi
    rcases hi with rfl
    · exact Zbg (c2 := Zao (Zac Tryz.f17) 0) (by kernel_rfl) (by kernel_rfl) (ZjN _ _ (Nat.le_refl _))
    )), (Zri n a).trans hn⟩
end Go.Tev.S1
namespace Go.Tev.S1
open Go.Abs Go.Proofs
def Zvi (a : List Cus × List UInt8) : Option Int := if a.1.length ≤ B then some (Zc7 a.1 a.2 0) else none
theorem Ztf {c : List Cus} {n : List UInt8} (h : c.length ≤ B) : Zvi (c, n) = some (Zc7 c n 0) := if_pos h
theorem ZwS (c : List Cus) (n : List UInt8) (h : c.length ≤ B) : Zho (c.length + 1) c n = some (Zc7 c n 0) := by
  have hB : B = 2 ^ 36 := rfl
  unfold Zho
  refine (Zcy c (fun (_ : Nat) => (0 : Int)) (fun b v => if v.name == n then .inr (some (b : Int)) else .inl (b + 1)) (fun b => some (-1 : Int)) (fun i b => b = i) ?_ ?_ ?_ 0 rfl _ (Nat.lt_succ_self _)).trans ?_
  · intro i b v k' hv hlt hb
    subst hb
    simp (disch := omega) only [Zez, Zbh hv, Option.bind_some, dlt hlt, cond_true, ZdE]
    cases (v.name == n) <;> rfl
  · intro i b v b' hv hb hs
    subst hb
    cases e : (v.name == n) <;> rw [e] at hs <;> cases hs
    rfl
  · intro b k' hb
    simp only [Zez, Zpc, cond_false]
  · clear h
    have : ∀ (l : List Cus) (b : Nat), Zjg (fun (b : Nat) (v : Cus) => if v.name == n then .inr (some (b : Int)) else .inl (b + 1)) (fun _ => some (-1 : Int)) l b = some (Zc7 l n (b : Int)) := by
      intro l
      induction l with
      | nil => intro b; rfl
      | cons v l ih =>
        intro b
        simp only [Zjg, Zc7]
        cases (v.name == n) with
        | true => rfl
        | false => exact ih (b + 1)
    exact this c 0
theorem Yax {K : Zaa} (hK : Zc2 K) : Zap U (Zab C K) 17 ⟨true, [.ty 23, .ty 9], [3], Zvi⟩ :=
  Zkq (kf hK 17 (by decide)) _ fun a r h => by
    unfold Zvi at h
    split at h
    · rename_i h3; cases h; exact ⟨_, ZwS a.1 a.2 h3⟩
    · cases h
def ZuA (lk : Lk) (l : List Val) : Int := match ZeK lk l with
  | some m => m
  | none => -1
theorem Zzd {R : Type} (lk : Lk) (z : Option R) (kx : List Val → Option R) : ∀ (l b : List Val), (ZeK lk b).isSome = true →
    Zjg (fun b v => if (ZeK lk (b ++ [v])).isSome = true then .inl (b ++ [v]) else .inr z) kx l b = if (ZeK lk (b ++ l)).isSome = true then kx (b ++ l) else z := by
  intro l
  induction l with
  | nil => intro b hb; simp only [Zjg, List.append_nil, if_pos hb]
  | cons v l ih =>
    intro b hb
    simp only [Zjg]
    by_cases h : (ZeK lk (b ++ [v])).isSome = true
    · rw [if_pos h]
      simp only
      rw [ih _ h, List.append_assoc]; rfl
    · rw [if_neg h]
      have : ¬ (ZeK lk (b ++ v :: l)).isSome = true := by
        intro h2
        apply h
        have e : b ++ v :: l = (b ++ [v]) ++ l := by simp
        rw [e, Zh5] at h2
        cases hh : ZeK lk (b ++ [v]) with
        | none => rw [hh] at h2; simp [ZkO] at h2
        | some x => rfl
      rw [if_neg this]
def okM (a : List Val × List (List UInt8 × List Val)) : Prop := Zaq a.1 ≤ B ∧ ∀ p ∈ a.2, Zaq p.2 ≤ V
instance (a) : Decidable (okM a) := inferInstanceAs (Decidable (_ ∧ _))
def YaP (a : List Val × List (List UInt8 × List Val)) : Option Int := if okM a then some (ZuA (lkM a.2) a.1) else none
theorem Zr6 {l : List Val} {m : List (List UInt8 × List Val)} (h : Zaq l ≤ B) (h2 : ∀ p ∈ m, Zaq p.2 ≤ V) : YaP (l, m) = some (ZuA (lkM m) l) := if_pos ⟨h, h2⟩
theorem Zl4 {lk : Lk} {l : List Val} {m : Nat} (h : Zaq l ≤ B) (h2 : ∀ n x, lk n = some x → Zaq x ≤ V) (hm : ZeK lk l = some m) : m ≤ 2 ^ 60 := by
  have h3 := Yd0 lk V (by decide) h2 l m hm
  have h4 : Zaq l * V ≤ B * V := Nat.mul_le_mul_right _ h
  have h5 : B * V = 2 ^ 60 := by decide
  omega
theorem Zij {lk : Lk} {l : List Val} {m : Nat} (h : ZeK lk l = some m) : ZuA lk l = (m : Int) := by unfold ZuA; rw [h]
theorem ZiQ {lk : Lk} {l : List Val} (h : ZeK lk l = none) : ZuA lk l = -1 := by unfold ZuA; rw [h]
theorem ZrA : decide ((-1 : Int) < 0) = true := rfl
theorem Zpj (m : List (List UInt8 × List Val)) (l : List Val) (k : Nat) (h1 : Zaq l < k + 1) (h2 : Zaq l ≤ B) (hm : ∀ p ∈ m, Zaq p.2 ≤ V) :
    ZeW (fun v => some v.ref) (below (fun a : List Val × List (List UInt8 × List Val) => Zaq a.1) k YaP) Zm6 Zqq (l.length + 1) l m = some (ZuA (lkM m) l) := by
  have hB : B = 2 ^ 36 := rfl
  have hV : V = 2 ^ 24 := rfl
  have hlk : ∀ n x, lkM m n = some x → Zaq x ≤ V := by
    intro n x h
    obtain ⟨p, hp, rfl⟩ := ZwZ h
    exact hm p hp
  unfold ZeW
  have e0 : ZuA (lkM m) [] = 0 := by unfold ZuA; rw [ZdH]; rfl
  refine ((congrArg (fun z => Zoi _ _ (0 : Int) z (0 : Int)) e0.symm).trans (Zg8 l (fun (_ : List Val) => (0 : Int)) (fun b => ZuA (lkM m) b) (fun b v => if (ZeK (lkM m) (b ++ [v])).isSome = true then .inl (b ++ [v]) else .inr (some (-1 : Int))) (fun b => some (ZuA (lkM m) b)) (fun i b => b = l.take i ∧ (ZeK (lkM m) b).isSome = true) ?_ ?_ ?_ [] ⟨rfl, by rw [ZdH]; rfl⟩ _ (Nat.lt_succ_self _))).trans ?_
  · intro i b v k' hv hlt hb
    obtain ⟨hb, hbs⟩ := hb
    obtain ⟨nb, hnb⟩ := Option.isSome_iff_exists.1 hbs
    have hmem := List.mem_of_getElem? hv
    have hs := ZeM hmem
    have hm1 := Zk6 hmem
    have hl := ZeS l
    have he := v.tot_eq
    have hp := ZiA v.l
    have hble : Zaq b ≤ B := by rw [hb]; exact Nat.le_trans (ZeJ l i) h2
    have hbb := Zl4 hble hlk hnb
    have ib := Zij hnb
    have hbel : below (fun a : List Val × List (List UInt8 × List Val) => Zaq a.1) k YaP (v.l, m) = some (ZuA (lkM m) v.l) := (Zd4 (sz := fun a : List Val × List (List UInt8 × List Val) => Zaq a.1) (show Zaq v.l < k by omega)).trans (Zr6 (by omega) hm)
    have hbel2 : below (fun a : List Val × List (List UInt8 × List Val) => Zaq a.1) k YaP ((Zav v.l).2.1, m) = some (ZuA (lkM m) (Zav v.l).2.1) := (Zd4 (sz := fun a : List Val × List (List UInt8 × List Val) => Zaq a.1) (show Zaq (Zav v.l).2.1 < k by omega)).trans (Zr6 (by omega) hm)
    have hi : IntKind.i64.wrap ((i : Int) + 1) = ((i + 1 : Nat) : Int) := Za1 (by omega)
    simp only [ZdB, Zbh hv, Option.bind_some, dlt hlt, cond_true, Val.eta, hi, Bool.cond_self]
    have hsn := Zw8 (lkM m) b v
    rw [hnb] at hsn
    rw [ib]
    cases e1 : v.ref
    · rw [ZnP e1] at hsn
      simp only [Bool.not_false, Bool.not_true, cond_true, cond_false, Option.bind_some, hbel, Bool.false_and]
      cases e2 : ZeK (lkM m) v.l with
      | none =>
        rw [e2] at hsn
        rw [ZiQ e2, hsn]
        simp only [ZrA, cond_true, ZkO, Option.isSome_none, Bool.false_eq_true, if_false]
      | some n =>
        have hnn := Zl4 (show Zaq v.l ≤ B by omega) hlk e2
        rw [e2] at hsn
        have e3 : decide ((n : Int) < 0) = false := by simp
        rw [Zij e2, e3, if_pos (by rw [hsn]; rfl)]
        simp only [cond_false]
        rw [Zij hsn]
        simp (disch := omega) only [ZdE]
        have hx : (nb : Int) + (1 + (v.tok.t.length : Int) + (v.tok.u.length : Int)) + (n : Int) = ((nb + ((1 + v.tok.t.length + v.tok.u.length) + n) : Nat) : Int) := by omega
        rw [hx]
    · simp only [Bool.not_false, Bool.not_true, cond_true, cond_false, Option.bind_some, Zl7 (show v.tot ≤ B by omega), Bool.true_and]
      cases e2 : Za7 BEq.beq (Zav v.l).1 m with
      | some x =>
        have e2' : lkM m (Zav v.l).1 = some x := e2
        have hxl := hlk _ _ e2'
        rw [Ztw e1 e2'] at hsn
        simp only [ZkB, Option.isSome_some, cond_true, Bool.not_true, Bool.false_and, cond_false, ZnA (show Zaq x ≤ B by omega), Option.bind_some]
        have e3 : decide ((Zaq x : Int) < 0) = false := by simp
        rw [e3, if_pos (by rw [hsn]; rfl)]
        simp only [cond_false]
        rw [Zij hsn, ZdE (by omega) (by omega)]
        rfl
      | none =>
        have e2' : lkM m (Zav v.l).1 = none := e2
        simp only [Option.isSome_none, cond_false, Bool.not_false, Bool.true_and, Option.bind_some]
        cases e3 : (Zav v.l).2.2
        · rw [ZsK e1 e2' e3] at hsn
          rw [hsn]
          simp only [ZrA, cond_true, cond_false, Option.bind_some, ZkO, Option.isSome_none, Bool.false_eq_true, if_false]
        · rw [ZsM e1 e2' e3] at hsn
          simp only [cond_true, hbel2, Option.bind_some]
          cases e4 : ZeK (lkM m) (Zav v.l).2.1 with
          | none =>
            rw [e4] at hsn
            rw [ZiQ e4, hsn]
            simp only [ZrA, cond_true, ZkO, Option.isSome_none, Bool.false_eq_true, if_false]
          | some n =>
            rw [e4] at hsn
            have hnn := Zl4 (show Zaq (Zav v.l).2.1 ≤ B by omega) hlk e4
            have e5 : decide ((n : Int) < 0) = false := by simp
            rw [Zij e4, e5, if_pos (by rw [hsn]; rfl)]
            simp only [cond_false]
            rw [Zij hsn, ZdE (by omega) (by omega)]
            rfl
  · intro i b v b' hv hb hs
    split at hs
    · rename_i h; cases hs; exact ⟨by rw [ZbJ hv, hb.1], h⟩
    · cases hs
  · intro b k' hb
    simp only [ZdB, Zpc, cond_false]
  · rw [Zzd _ _ _ _ _ (by rw [ZdH]; rfl)]
    simp only [List.nil_append]
    cases e : ZeK (lkM m) l with
    | none => rw [ZiQ e]; rfl
    | some n => rfl
theorem Zxv {K : Zaa} (hK : Zc2 K) : Zap U (Zab C K) 53 ⟨true, [.ty 22, .ty 60], [3], YaP⟩ :=
  Zd8 (U := U) (ak := [.ty 22, .ty 60]) (rts := [3]) (fun a : List Val × List (List UInt8 × List Val) => Zaq a.1) YaP fun k ih => ZiE (kf hK 53 (by decide)) _ _ _ _ (Zr2 hK) ih (Zsg hK) (YaR hK) _ fun a r h => by
    obtain ⟨h1, h2⟩ := Zda h
    unfold YaP at h2
    split at h2
    · rename_i h3; cases h2; exact ⟨_, Zpj a.2 a.1 k h1 h3.1 h3.2⟩
    · cases h2
end Go.Tev.S1
namespace Go.Tev
open Go.Abs
theorem Ybc {lk : Lk} {l : List Val} {n : Nat} (h : ZeK lk l = some n) {v : Val} (hv : v ∈ l) : ∃ n', Zsh lk v = some n' ∧ n' ≤ n := by
  induction l generalizing n with
  | nil => cases hv
  | cons w l ih =>
    rw [ZcK] at h
    obtain ⟨x, y, hx, hy, rfl⟩ := ZeR h
    rcases List.mem_cons.1 hv with rfl | hv
    · exact ⟨x, hx, by omega⟩
    · obtain ⟨n', h1, h2⟩ := ih hy hv
      exact ⟨n', h1, by omega⟩
theorem Ycj {lk : Lk} {l : List Val} {n : Nat} (h : ZeK lk l = some n) (i : Nat) : (Zek lk (l.take i)).length ≤ n := by
  rw [← List.take_append_drop i l, Zh5] at h
  obtain ⟨x, y, hx, hy, rfl⟩ := ZeR h
  have h1 := ZxX lk _ _ hx
  have h2 := ZeS (Zek lk (l.take i))
  omega
theorem ZoB {l : List Val} {v : Val} (hv : v ∈ l) (h : v.hasv = true) : ZbR l = true := by
  induction l with
  | nil => cases hv
  | cons w l ih =>
    rw [ZbR]
    rcases List.mem_cons.1 hv with rfl | hv
    · rw [h]; rfl
    · rw [ih hv, Bool.or_true]
end Go.Tev
namespace Go.Tev.S1
open Go.Abs Go.Proofs
def okC' (a : List Val × List Cus) : Prop := Zaq a.1 ≤ B ∧ a.2.length ≤ B ∧ ∀ p ∈ a.2, Zaq p.val ≤ V
instance (a) : Decidable (okC' a) := inferInstanceAs (Decidable (_ ∧ _ ∧ _))
end Go.Tev.S1
namespace Go.Tev.S1
open Go.Abs Go.Proofs
abbrev Mp := List (List UInt8 × List Val)
def Yd6 (lk : Lk) : Prop := ∀ n x, lk n = some x → Zaq x ≤ V ∧ ZbR x = false
def okP (lk : Lk) (l : List Val) : Prop := Zaq l ≤ B ∧ Yd6 lk ∧ ∃ n, ZeK lk l = some n ∧ n ≤ B
open Classical in
noncomputable def Ya2 (a : List Val × Mp) : Option (List Val) := if okP (lkM a.2) a.1 then some (Zek (lkM a.2) a.1) else none
theorem Zss {l : List Val} {m : Mp} (h : okP (lkM m) l) : Ya2 (l, m) = some (Zek (lkM m) l) := if_pos h
def szP (l : List Val) : Nat := if ZbR l then B + 1 + Zaq l else Zaq l
theorem Ybn {lk : Lk} {l : List Val} (h : okP lk l) {v : Val} (hv : v ∈ l) :
    (v.ref = false → okP lk v.l ∧ szP v.l < szP l) ∧
    (v.ref = true → ∀ x, lk (Zav v.l).1 = some x → okP lk x ∧ szP x < szP l ∧ Zek lk x = x) ∧
    (v.ref = true → lk (Zav v.l).1 = none → okP lk (Zav v.l).2.1 ∧ szP (Zav v.l).2.1 < szP l) := by
  have hB : B = 2 ^ 36 := rfl
  have hV : V = 2 ^ 24 := rfl
  obtain ⟨h1, h2, n, h3, h4⟩ := h
  obtain ⟨n', h5, h6⟩ := Ybc h3 hv
  have hs := ZeM hv
  have hp := ZiA v.l
  have hmono : ∀ (y : List Val), Zaq y < Zaq l → (ZbR y = true → ZbR l = true) → szP y < szP l := by
    intro y hy hh
    unfold szP
    by_cases e : ZbR y = true
    · rw [if_pos e, if_pos (hh e)]; omega
    · rw [if_neg e]; split <;> omega
  refine ⟨fun e => ?_, fun e x hx => ?_, fun e hx => ?_⟩
  · rw [ZnP e] at h5
    obtain ⟨a, b, ha, hb, rfl⟩ := ZeR h5
    refine ⟨⟨by omega, h2, b, hb, by omega⟩, hmono _ hs (fun hh => ZoB hv (by rw [Val.hasv_eq, hh, Bool.or_true]))⟩
  · obtain ⟨g1, g2⟩ := h2 _ _ hx
    refine ⟨⟨by omega, h2, Zaq x, Zty lk x g2, by omega⟩, ?_, Yah lk x g2⟩
    have : ZbR l = true := ZoB hv (by rw [Val.hasv_eq, e]; rfl)
    unfold szP
    rw [if_pos this, if_neg (by rw [g2]; decide)]
    omega
  · cases e3 : (Zav v.l).2.2 with
    | false => rw [ZsK e hx e3] at h5; cases h5
    | true =>
      rw [ZsM e hx e3] at h5
      refine ⟨⟨by omega, h2, n', h5, by omega⟩, hmono _ (by omega) (fun _ => ZoB hv (by rw [Val.hasv_eq, e]; rfl))⟩
theorem Zq4 {lk : Lk} {l : List Val} {n : Nat} (h : ZeK lk l = some n) (hn : n ≤ B) {i : Nat} {v : Val} (hv : l[i]? = some v) {b : Nat} (hb : b ≤ 96) : room b ((Zek lk (l.take i)).length + (ZuP lk v).length) = some () := by
  have hB : B = 2 ^ 36 := rfl
  have h1 := Ycj h (i + 1)
  rw [ZbJ hv, ZqP, List.length_append] at h1
  exact ZlQ (by omega) hb
theorem Zyw (m : Mp) (l : List Val) (k : Nat) (h1 : szP l < k + 1) (h2 : okP (lkM m) l) :
    ZkJ (fun v => some v.ref) (below (fun a : List Val × Mp => szP a.1) k Ya2) Zm6 (l.length + 1) l m = some (Zek (lkM m) l) := by
  have hB : B = 2 ^ 36 := rfl
  have hV : V = 2 ^ 24 := rfl
  unfold ZkJ
  have e0 := Zfc (lkM m)
  refine ((congrArg (fun z => Zff _ _ z (0 : Int)) e0.symm).trans (Zcy l (fun b => Zek (lkM m) b) (fun b v => .inl (b ++ [v])) (fun b => some (Zek (lkM m) b)) (fun i b => b = l.take i) ?_ ?_ ?_ [] rfl _ (Nat.lt_succ_self _))).trans ?_
  · intro i b v k' hv hlt hb
    subst hb
    have hmem := List.mem_of_getElem? hv
    have hs := ZeM hmem
    have hm1 := Zk6 hmem
    have hl := ZeS l
    have hB2 := h2.1
    obtain ⟨g1, g2, g3⟩ := Ybn h2 hmem
    obtain ⟨n, hn, hn2⟩ := h2.2.2
    have hr := Zq4 hn hn2 hv (show 80 ≤ 96 by decide)
    have hi : IntKind.i64.wrap ((i : Int) + 1) = ((i + 1 : Nat) : Int) := Za1 (by omega)
    have bel : ∀ x, okP (lkM m) x → szP x < szP l → below (fun a : List Val × Mp => szP a.1) k Ya2 (x, m) = some (Zek (lkM m) x) := fun x hx hz => (Zd4 (sz := fun a : List Val × Mp => szP a.1) (show szP x < k by omega)).trans (Zss hx)
    simp only [ZfN, Zbh hv, Option.bind_some, dlt hlt, cond_true, Val.eta, hi, Bool.cond_self]
    rw [ZqP]
    cases e1 : v.ref
    · obtain ⟨g4, g5⟩ := g1 e1
      rw [ZrD e1] at hr ⊢
      simp only [Bool.not_false, cond_true, bel _ g4 g5, Option.bind_some, hr]
    · simp only [Bool.not_true, cond_false, Zl7 (show v.tot ≤ B by omega), Option.bind_some]
      cases e2 : Za7 BEq.beq (Zav v.l).1 m with
      | some x =>
        have e2' : lkM m (Zav v.l).1 = some x := e2
        obtain ⟨g4, g5, g6⟩ := g2 e1 x e2'
        rw [ZzH e1 e2'] at hr ⊢
        simp only [Option.isSome_some, cond_true, ZkB, bel _ g4 g5, Option.bind_some, g6, hr]
      | none =>
        have e2' : lkM m (Zav v.l).1 = none := e2
        obtain ⟨g4, g5⟩ := g3 e1 e2'
        rw [Zy0 e1 e2'] at hr ⊢
        simp only [Option.isSome_none, cond_false, bel _ g4 g5, Option.bind_some, hr]
  · intro i b v b' hv hb hs
    cases hs
    rw [ZbJ hv, hb]
  · intro b k' hb
    simp only [ZfN, Zpc, cond_false]
  · rw [Zd6 (fun (b : List Val) (v : Val) => b ++ [v]), ZfA]
theorem YeR {K : Zaa} (hK : Zc2 K) : Zap U (Zab C K) 54 ⟨true, [.ty 22, .ty 60], [22], Ya2⟩ :=
  Zd8 (U := U) (ak := [.ty 22, .ty 60]) (rts := [22]) (fun a : List Val × Mp => szP a.1) Ya2 fun k ih => Zmz (kf hK 54 (by decide)) _ _ _ (Zr2 hK) ih (Zsg hK) _ fun a r h => by
    obtain ⟨h1, h2⟩ := Zda h
    unfold Ya2 at h2
    split at h2
    · rename_i h3; cases h2; exact ⟨_, Zyw a.2 a.1 k h1 h3⟩
    · cases h2
end Go.Tev.S1
namespace Go.Tev.S1
open Go.Abs Go.Proofs
abbrev T4a : Type := (List UInt8) → Option Bool
abbrev T4d : Type := (List Val) → Option Bool
abbrev T4e : Type := (List Val) × Int → Option Int
abbrev P4a (K : Zaa) (t : T4a) : Prop := Zap U (Zab C K) 61 ⟨true, [.ty 9], [4], t⟩
abbrev P4k (K : Zaa) (t : T4d) : Prop := Zap U (Zab C K) 9 ⟨true, [.ty 22], [4], t⟩
abbrev P4l (K : Zaa) (t : T4e) : Prop := Zap U (Zab C K) 27 ⟨true, [.ty 22, .ty 3], [3], t⟩
def Zeq (qa : T4a) {R : Type} (n : Nat) (a6 : List Cus) (a7 : Int) (kx0 : Bool → Option R) (kr : Bool → Option R) (y2 : Bool) (y3 : List UInt8) (y8 : Int) (k : Bool → List UInt8 → Int → Option R) : Option R :=
  cond (decide (y8 < a7))
  (Option.bind (Zeu a6 y8) fun x3 =>
  Option.bind (qa x3.name) fun r4 =>
  Option.bind (some (cond (!r4) true (Op.bytesLess x3.name y3 || x3.name == y3))) fun m5 =>
  cond m5
  (kr false)
  (k y2 x3.name (IntKind.i64.wrap (y8 + (1 : Int)))))
  (kx0 y2)
def Zg4 (qa : T4a) (n : Nat) (p0 : List Cus) : Option Bool :=
  Zoi (Zeq qa n p0 (p0.length : Int) (fun z1 =>
  some true) (fun z2 =>
  some z2)) n false [] (0 : Int)
abbrev Zqe (qa : T4a) : List (Nat × TCall X) := [(61, ⟨true, [.ty 9], [4], qa⟩)]
noncomputable abbrev Zct (qa : T4a) : Cx := ⟨C, U, Zqe qa, [], fun _ => []⟩
theorem Zor : okF (C.ann 42) Tryz.f42 1 = true := by kernel_rfl
abbrev vars_named_L0_D : LD := ⟨0, [.val 6 23, .val 7 2], [.val 2 4, .val 3 9, .val 8 2], [(0, [.val 2 4])], [.val 2 4]⟩
abbrev Zdy (qa : T4a) (n : Nat) : LG U (PX X [4]) vars_named_L0_D := fun c kx kr y k => Zeq qa n c.1 c.2.1 (fun z0 => kx 0 (z0, ())) (fun z0 => kr (z0, ())) y.1 y.2.1 y.2.2.1 (fun z0 z1 z2 => k (z0, z1, z2, ()))
noncomputable abbrev Zdo (qa : T4a) (n : Nat) : Zfm (Zct qa) (PX X [4]) := [(0, Zfl U vars_named_L0_D (Zdy qa n) n)]
theorem ZlE (qa : T4a) (n : Nat) : ∀ c kx kr y k1, evL (Zct qa) (ann 42) (Zdo qa n) 0 (Zao (Zac Tryz.f42) 0) (ZeL U vars_named_L0_D kx kr k1) (encS U vars_named_L0_D.cap vars_named_L0_D.din c y) = Zdy qa n c (fun i z => kx i c z) kr y (fun y2 => k1 c y2) := by
  intro c kx kr y k1
  kernel_rfl
theorem Zqg (qa : T4a) (n : Nat) : ∀ a, fnL (Zct qa) true 42 Tryz.f42 [.ty 23] [4] (Zdo qa n) a = Zg4 qa n a := by
  intro a
  kernel_rfl
theorem ZiV {K : Zaa} (qa : T4a) (h0 : P4a K qa) : CallsOk (Zct qa) (Zab C K) :=
  ⟨(Zah h0 ZaF), ZaG⟩
theorem ZjD {K : Zaa} (qa : T4a) (h0 : P4a K qa) (n : Nat) (b0 : Base) (bn0 : b0.nr ≤ 0) : Law (Zct qa) b0 (Zab C K) (ann 42) n (Zao (Zac Tryz.f42) 0) (Zfl U vars_named_L0_D (Zdy qa n) n) :=
  Zdt (x := Zct qa) (id := 0) ok (ZiV qa h0) (sums := Zdo qa n) (Zau (show Zat 0 (Zao (Zac Tryz.f42) 0) = [] by kernel_rfl)) vars_named_L0_D bn0 (Zdy qa n) (ZlE qa n)
theorem ZkG {K : Zaa} (hK : ∀ args h, K 42 args h = none) (qa : T4a) (h0 : P4a K qa) (t : PX X (AK.tys [.ty 23]) → Option (PX X [4])) (h : ∀ a r, t a = some r → ∃ n, Zg4 qa n a = some r) : Zap U (Zab C K) 42 ⟨true, [.ty 23], [4], t⟩ := by
  refine Zax (x := Zct qa) (ak := [.ty 23]) (rts := [4]) (dir := true) ok (ZiV qa h0) hK Tryz.func42 Zor fun a r hr => ?_
  obtain ⟨n, hn⟩ := h a r hr
  exact ⟨n, Zdo qa n, (Zbq (ids := [0]) (by kernel_rfl) (by decide) (fun i hi => by
    simp only [List.mem_cons, List.not_mem_nil, or_false] at hi
    rcases hi with rfl
    · exact Zbg (c2 := Zao (Zac Tryz.f42) 0) (by kernel_rfl) (by kernel_rfl) (ZjD qa h0 _ _ (Nat.le_refl _))
    )), (Zqg qa n a).trans hn⟩
def ZcM (qk : T4d) (ql : T4e) {R : Type} (n : Nat) (a0 : List Cus) (kx0 : Bool → Int → Option R) (kr : Bool → Option R) (y2 : Bool) (y3 : Int) (y4 : Int) (k : Bool → Int → Int → Option R) : Option R :=
  Option.bind (some (cond (decide (y4 < (a0.length : Int))) (decide (y4 ≤ (70 : Int))) false)) fun m5 =>
  cond m5
  (Option.bind (Zeu a0 y4) fun x6 =>
  Option.bind (qk x6.val) fun r7 =>
  Option.bind (cond (!r7) (Zeu a0 y4) (some Yec)) fun x8 =>
  Option.bind (some (cond r7 true (decide ((x8.name.length : Int) > (100 : Int))))) fun m9 =>
  cond m9
  (kr true)
  (Option.bind (Zeu a0 y4) fun x10 =>
  Option.bind (ql (x10.val, (300 : Int))) fun r11 =>
  k y2 (IntKind.i64.wrap (y3 + r11)) (IntKind.i64.wrap (y4 + (1 : Int)))))
  (kx0 y2 y3)
def ZfP (qk : T4d) (ql : T4e) (n : Nat) (p0 : List Cus) : Option Bool :=
  Zoi (ZcM qk ql n p0 (fun z1 z2 =>
  Option.bind (some (cond (decide ((p0.length : Int) > (70 : Int))) true (decide (z2 > (1500 : Int))))) fun m3 =>
  some m3) (fun z4 =>
  some z4)) n false (0 : Int) (0 : Int)
abbrev ZoY (qk : T4d) (ql : T4e) : List (Nat × TCall X) := [(9, ⟨true, [.ty 22], [4], qk⟩), (27, ⟨true, [.ty 22, .ty 3], [3], ql⟩)]
noncomputable abbrev Zb7 (qk : T4d) (ql : T4e) : Cx := ⟨C, U, ZoY qk ql, [], fun _ => []⟩
theorem ZmE : okF (C.ann 10) Tryz.f10 1 = true := by kernel_rfl
abbrev ref30_Great_L0_D : LD := ⟨0, [.val 0 23], [.val 2 4, .val 3 2, .val 4 2], [(0, [.val 2 4, .val 3 2])], [.val 2 4]⟩
abbrev ZcW (qk : T4d) (ql : T4e) (n : Nat) : LG U (PX X [4]) ref30_Great_L0_D := fun c kx kr y k => ZcM qk ql n c.1 (fun z0 z1 => kx 0 (z0, z1, ())) (fun z0 => kr (z0, ())) y.1 y.2.1 y.2.2.1 (fun z0 z1 z2 => k (z0, z1, z2, ()))
noncomputable abbrev ZcP (qk : T4d) (ql : T4e) (n : Nat) : Zfm (Zb7 qk ql) (PX X [4]) := [(0, Zfl U ref30_Great_L0_D (ZcW qk ql n) n)]
theorem ZkE (qk : T4d) (ql : T4e) (n : Nat) : ∀ c kx kr y k1, evL (Zb7 qk ql) (ann 10) (ZcP qk ql n) 0 (Zao (Zac Tryz.f10) 0) (ZeL U ref30_Great_L0_D kx kr k1) (encS U ref30_Great_L0_D.cap ref30_Great_L0_D.din c y) = ZcW qk ql n c (fun i z => kx i c z) kr y (fun y2 => k1 c y2) := by
  intro c kx kr y k1
  kernel_rfl
theorem Zo8 (qk : T4d) (ql : T4e) (n : Nat) : ∀ a, fnL (Zb7 qk ql) true 10 Tryz.f10 [.ty 23] [4] (ZcP qk ql n) a = ZfP qk ql n a := by
  intro a
  kernel_rfl
theorem ZhU {K : Zaa} (qk : T4d) (ql : T4e) (h0 : P4k K qk) (h1 : P4l K ql) : CallsOk (Zb7 qk ql) (Zab C K) :=
  ⟨(Zah h0 (Zah h1 ZaF)), ZaG⟩
theorem Ziy {K : Zaa} (qk : T4d) (ql : T4e) (h0 : P4k K qk) (h1 : P4l K ql) (n : Nat) (b0 : Base) (bn0 : b0.nr ≤ 0) : Law (Zb7 qk ql) b0 (Zab C K) (ann 10) n (Zao (Zac Tryz.f10) 0) (Zfl U ref30_Great_L0_D (ZcW qk ql n) n) :=
  Zdt (x := Zb7 qk ql) (id := 0) ok (ZhU qk ql h0 h1) (sums := ZcP qk ql n) (Zau (show Zat 0 (Zao (Zac Tryz.f10) 0) = [] by kernel_rfl)) ref30_Great_L0_D bn0 (ZcW qk ql n) (ZkE qk ql n)
theorem Zjj {K : Zaa} (hK : ∀ args h, K 10 args h = none) (qk : T4d) (ql : T4e) (h0 : P4k K qk) (h1 : P4l K ql) (t : PX X (AK.tys [.ty 23]) → Option (PX X [4])) (h : ∀ a r, t a = some r → ∃ n, ZfP qk ql n a = some r) : Zap U (Zab C K) 10 ⟨true, [.ty 23], [4], t⟩ := by
  refine Zax (x := Zb7 qk ql) (ak := [.ty 23]) (rts := [4]) (dir := true) ok (ZhU qk ql h0 h1) hK Tryz.func10 ZmE fun a r hr => ?_
  obtain ⟨n, hn⟩ := h a r hr
  exact ⟨n, ZcP qk ql n, (Zbq (ids := [0]) (by kernel_rfl) (by decide) (fun i hi => by
    simp only [List.mem_cons, List.not_mem_nil, or_false] at hi
    rcases hi with rfl
    · exact Zbg (c2 := Zao (Zac Tryz.f10) 0) (by kernel_rfl) (by kernel_rfl) (Ziy qk ql h0 h1 _ _ (Nat.le_refl _))
    )), (Zo8 qk ql n a).trans hn⟩
end Go.Tev.S1
namespace Go.Tev
open Go.Abs
theorem ZeH (a : List UInt8) : Op.bytesLess a a = false := by
  induction a with
  | nil => rfl
  | cons x a ih => rw [Op.bytesLess, ih]; simp
theorem Zto (a b : List UInt8) : (!(Op.bytesLess a b || a == b)) = Op.bytesLess b a := by
  induction a generalizing b with
  | nil => cases b <;> rfl
  | cons x a ih => cases b with
    | nil => rfl
    | cons y b =>
      have := ih b
      rw [Op.bytesLess, Op.bytesLess, ← this, List.cons_beq_cons]
      by_cases h1 : x = y
      · subst h1
        have : decide (x < x) = false := by simp
        rw [this]
        simp
      · have h2 : (x == y) = false := by simpa using h1
        have h3 : (y == x) = false := by simpa using fun h => h1 h.symm
        rw [h2, h3]
        simp only [Bool.false_and, Bool.or_false]
        rw [← decide_not]
        congr 1
        rw [UInt8.lt_iff_toNat_lt, UInt8.lt_iff_toNat_lt]
        have : x.toNat ≠ y.toNat := fun h => h1 (UInt8.toNat_inj.1 h)
        apply propext
        omega
theorem Zg3 {a b c : List UInt8} (h1 : Op.bytesLess a b = true) (h2 : Op.bytesLess b c = true) : Op.bytesLess a c = true := by
  induction a generalizing b c with
  | nil => cases c with
    | nil => cases b <;> simp [Op.bytesLess] at h2
    | cons => rfl
  | cons x a ih => cases b with
    | nil => simp [Op.bytesLess] at h1
    | cons y b => cases c with
      | nil => simp [Op.bytesLess] at h2
      | cons z c =>
        rw [Op.bytesLess, Bool.or_eq_true, Bool.and_eq_true, decide_eq_true_iff, beq_iff_eq] at h1 h2 ⊢
        rcases h1 with h1 | ⟨h1, h1'⟩
        · rcases h2 with h2 | ⟨h2, h2'⟩
          · left; rw [UInt8.lt_iff_toNat_lt] at *; omega
          · left; rw [← h2]; exact h1
        · rcases h2 with h2 | ⟨h2, h2'⟩
          · left; rw [h1]; exact h2
          · right; exact ⟨h1.trans h2, ih h1' h2'⟩
def namL : Option (List UInt8) → List Cus → Bool
  | _, [] => true
  | p, c :: r => ZbY c.name && (match p with
    | none => true
    | some q => Op.bytesLess q c.name) && namL (some c.name) r
theorem Zqr {n : List UInt8} (h : ZbY n = true) : n ≠ [] := by
  intro e; subst e; simp [ZbY] at h
theorem Zw7 {q : List UInt8} {c : List Cus} (h : namL (some q) c = true) : ∀ x ∈ c, Op.bytesLess q x.name = true := by
  induction c generalizing q with
  | nil => intro x hx; cases hx
  | cons y c ih =>
    rw [namL, Bool.and_eq_true, Bool.and_eq_true] at h
    intro x hx
    rcases List.mem_cons.1 hx with rfl | hx
    · exact h.1.2
    · exact Zg3 h.1.2 (ih h.2 x hx)
theorem ZpK {p : Option (List UInt8)} {y : Cus} {c : List Cus} (h : namL p (y :: c) = true) : (∀ x ∈ c, x.name ≠ y.name) ∧ namL (some y.name) c = true := by
  have h2 : namL (some y.name) c = true := by
    rw [namL.eq_def] at h
    simp only [Bool.and_eq_true] at h
    exact h.2
  refine ⟨fun x hx e => ?_, h2⟩
  have := Zw7 h2 x hx
  rw [e, ZeH] at this
  cases this
end Go.Tev
namespace Go.Tev.S1
open Go.Abs Go.Proofs
def ZtG (c : List Cus) : Option Bool := if c.length ≤ B then some (namL none c) else none
theorem ZvP {c : List Cus} (h : c.length ≤ B) : ZtG c = some (namL none c) := if_pos h
def Ybp (p : Option (List UInt8)) (v : Cus) : Bool := ZbY v.name && (match p with
  | none => true
  | some q => Op.bytesLess q v.name)
theorem Ycw (l : List Cus) : ∀ p, Zjg (fun (p : Option (List UInt8)) v => if Ybp p v = true then .inl (some v.name) else .inr (some false)) (fun _ => some true) l p = some (namL p l) := by
  induction l with
  | nil => intro p; rw [namL.eq_def]; rfl
  | cons v l ih =>
    intro p
    simp only [Zjg]
    have e : namL p (v :: l) = (Ybp p v && namL (some v.name) l) := by rw [namL.eq_def]; rfl
    rw [e]
    by_cases h : Ybp p v = true
    · rw [if_pos h, h]; exact ih _
    · rw [if_neg h, (Bool.not_eq_true _).mp h]; rfl
def YaZ : Option (List UInt8) → List UInt8
  | none => []
  | some q => q
theorem Zup (c : List Cus) (h : c.length ≤ B) : Zg4 (fun p => some (ZbY p)) (c.length + 1) c = some (namL none c) := by
  have hB : B = 2 ^ 36 := rfl
  unfold Zg4
  refine (Zg8 c (fun (_ : Option (List UInt8)) => false) YaZ (fun p v => if Ybp p v = true then .inl (some v.name) else .inr (some false)) (fun _ => some true) (fun i b => True) ?_ ?_ ?_ none trivial _ (Nat.lt_succ_self _)).trans (Ycw c none)
  · intro i b v k' hv hlt hb
    have hi : IntKind.i64.wrap ((i : Int) + 1) = ((i + 1 : Nat) : Int) := Za1 (by omega)
    simp only [Zeq, Zbh hv, Option.bind_some, dlt hlt, cond_true, hi]
    have key : (bif !ZbY v.name then true else (Op.bytesLess v.name (YaZ b) || v.name == YaZ b)) = !Ybp b v := by
      unfold Ybp
      cases e1 : ZbY v.name
      · rfl
      · have hne := Zqr e1
        cases b with
        | none =>
          cases e3 : v.name with
          | nil => exact absurd e3 hne
          | cons x r => rfl
        | some q =>
          change (Op.bytesLess v.name q || v.name == q) = !(true && Op.bytesLess q v.name)
          rw [← Zto v.name q, Bool.true_and, Bool.not_not]
    rw [key]
    cases Ybp b v <;> rfl
  · intro i b v b' hv hb hs; trivial
  · intro b k' hb
    simp only [Zeq, Zpc, cond_false]
theorem Ycb {K : Zaa} (hK : Zc2 K) : Zap U (Zab C K) 42 ⟨true, [.ty 23], [4], ZtG⟩ :=
  ZkG (kf hK 42 (by decide)) _ (Zue hK) _ fun a r h => by
    unfold ZtG at h
    split at h
    · rename_i h3; cases h; exact ⟨_, Zup a h3⟩
    · cases h
def Zjh (c : List Cus) : Prop := c.length ≤ B ∧ ∀ v ∈ c, Zaq v.val ≤ V
instance (a) : Decidable (Zjh a) := inferInstanceAs (Decidable (_ ∧ _))
end Go.Tev.S1
namespace Go.Tev.S1
open Go.Abs Go.Proofs
def Zik (lk : Lk) (l : List Val) : List Val × Int := match ZeK lk l with
  | none => ([], 6)
  | some n => if 2000 < n ∧ ZbR l = true then ([], 28) else if Zba (Zek lk l) = 0 then (Zek lk l, 0) else ([], Zba (Zek lk l))
def okR (lk : Lk) (l : List Val) : Prop := Zaq l ≤ B ∧ Yd6 lk
open Classical in
noncomputable def Zok (a : List Val × Mp) : Option (List Val × Int) := if okR (lkM a.2) a.1 ∧ ∀ p ∈ a.2, Zaq p.2 ≤ V then some (Zik (lkM a.2) a.1) else none
theorem ZrJ {l : List Val} {m : Mp} (h : okR (lkM m) l) (h2 : ∀ p ∈ m, Zaq p.2 ≤ V) : Zok (l, m) = some (Zik (lkM m) l) := if_pos ⟨h, h2⟩
theorem YaH {lk : Lk} {l : List Val} (h : okR lk l) {n : Nat} (hn : ZeK lk l = some n) (h2 : ¬ (2000 < n ∧ ZbR l = true)) : okP lk l ∧ Zaq (Zek lk l) ≤ B := by
  have hB : B = 2 ^ 36 := rfl
  have : n ≤ B := by
    by_cases h3 : 2000 < n
    · cases e : ZbR l with
      | true => exact absurd ⟨h3, e⟩ h2
      | false =>
        rw [Zty lk l e] at hn
        cases hn
        exact h.1
    · omega
  exact ⟨⟨h.1, h.2, n, hn, this⟩, by rw [ZxX lk l n hn]; exact this⟩
theorem ZpH (m : Mp) (l : List Val) (h : okR (lkM m) l) (hm : ∀ p ∈ m, Zaq p.2 ≤ V) : ZeX YaP YcA Ya2 Znf 0 l m = some (Zik (lkM m) l) := by
  unfold ZeX Zik
  rw [Zr6 h.1 hm]
  cases e : ZeK (lkM m) l with
  | none =>
    rw [ZiQ e]; rfl
  | some n =>
    rw [Zij e]
    have e1 : decide ((n : Int) < 0) = false := by simp
    simp only [Option.bind_some, e1, cond_false, ZxW h.1]
    by_cases h2 : 2000 < n ∧ ZbR l = true
    · have e2 : decide ((n : Int) > 2000) = true := by simp; omega
      rw [if_pos h2]
      simp only [e2, h2.2, cond_true, Option.bind_some]
    · obtain ⟨g1, g2⟩ := YaH h e h2
      have e2 : (bif decide ((n : Int) > 2000) then ZbR l else false) = false := by
        by_cases h3 : 2000 < n
        · have : ZbR l = false := by
            cases e : ZbR l with
            | true => exact absurd ⟨h3, e⟩ h2
            | false => rfl
          rw [this]; simp
        · have : decide ((n : Int) > 2000) = false := by simp; omega
          rw [this]; rfl
      rw [if_neg h2]
      have e3 : ∀ (X : Option Bool), (Option.bind (bif decide ((n : Int) > 2000) then some (ZbR l) else some false) fun r2 => (some (bif decide ((n : Int) > 2000) then r2 else false))) = some false := by
        intro X
        rw [← e2]
        cases decide ((n : Int) > 2000) <;> rfl
      cases e4 : decide ((n : Int) > 2000)
      · simp only [cond_false, Option.bind_some, Zss g1, ZiS g2]
        by_cases h5 : Zba (Zek (lkM m) l) = 0
        · have : (Zba (Zek (lkM m) l) != 0) = false := by simpa using h5
          rw [this, if_pos h5]; rfl
        · have : (Zba (Zek (lkM m) l) != 0) = true := by simpa using h5
          rw [this, if_neg h5]; rfl
      · have e5 : ZbR l = false := by rw [e4] at e2; exact e2
        simp only [cond_true, e5, cond_false, Option.bind_some, Zss g1, ZiS g2]
        by_cases h5 : Zba (Zek (lkM m) l) = 0
        · have : (Zba (Zek (lkM m) l) != 0) = false := by simpa using h5
          rw [this, if_pos h5]; rfl
        · have : (Zba (Zek (lkM m) l) != 0) = true := by simpa using h5
          rw [this, if_neg h5]; rfl
theorem Zv6 {K : Zaa} (hK : Zc2 K) : Zap U (Zab C K) 34 ⟨true, [.ty 22, .ty 60], [22, 28], Zok⟩ :=
  Zip (kf hK 34 (by decide)) _ _ _ _ (Zxv hK) (YeP hK) (YeR hK) (Zif (kf hK 33 (by decide)) (kf hK 52 (by decide)) (kf hK 66 (by decide))) _ fun a r h => by
    unfold Zok at h
    split at h
    · rename_i h3; cases h; exact ⟨0, ZpH a.2 a.1 h3.1 h3.2⟩
    · cases h
end Go.Tev.S1
namespace Go.Tev
open Go.Abs
mutual
def Val.uses : Val → List (List UInt8)
  | .mk t l => (if (t.k == 2 && (Zfa t.t == [118, 97, 114])) && ((Zav l).1 != []) then [(Zav l).1] else []) ++ ZaX l
def ZaX : List Val → List (List UInt8)
  | [] => []
  | v :: r => v.uses ++ ZaX r
end
theorem Val.uses_eq (v : Val) : v.uses = (if v.ref && ((Zav v.l).1 != []) then [(Zav v.l).1] else []) ++ ZaX v.l := by cases v; rfl
theorem ZpZ (a b : List Val) : ZaX (a ++ b) = ZaX a ++ ZaX b := by
  induction a with
  | nil => rfl
  | cons v a ih => simp only [List.cons_append, ZaX, ih, List.append_assoc]
theorem YdY {α : Type} (c : Bool) (n : α) : (if c = true then [n] else []).length ≤ 1 := by cases c <;> simp
mutual
theorem ZzE : ∀ v : Val, v.uses.length ≤ v.tot
  | .mk t l => by
    have := Zg0 l
    rw [Val.uses_eq, Val.tot_eq]
    simp only [Val.l, Val.tok, List.length_append]
    exact Nat.le_trans (Nat.add_le_add_right (YdY _ _) _) (by omega)
theorem Zg0 : ∀ l : List Val, (ZaX l).length ≤ Zaq l
  | [] => Nat.le_refl _
  | v :: r => by
    have h1 := ZzE v
    have h2 := Zg0 r
    simp only [ZaX, Zaq, List.length_append]; omega
end
abbrev Bm := List (List UInt8 × Bool)
def Zej (h : Bm) (l : List Val) : Bm := (ZaX l).foldl (fun h n => ZkS BEq.beq n true h) h
theorem ZwX (h : Bm) (l : List Val) (v : Val) : Zej h (l ++ [v]) = (v.uses).foldl (fun h n => ZkS BEq.beq n true h) (Zej h l) := by
  unfold Zej
  rw [ZpZ, List.foldl_append]
  simp [ZaX]
end Go.Tev
namespace Go.Tev.S1
open Go.Abs Go.Proofs
def Ya3 (l : List Val) (cs : Bm × Unit) : Option (Unit × (Bm × Unit)) := if Zaq l ≤ B then some ((), (Zej cs.1 l, ())) else none
theorem Zrq {l : List Val} {h : Bm} (h1 : Zaq l ≤ B) : Ya3 l (h, ()) = some ((), (Zej h l, ())) := if_pos h1
theorem ZyP (l : List Val) (h : Bm) (k : Nat) (h1 : Zaq l < k + 1) (h2 : Zaq l ≤ B) : Ze2 (fun v => some v.ref) Zm6 (fun a cs => if Zaq a < k then Ya3 a cs else none) (l.length + 1) l h = some ((), (Zej h l, ())) := by
  have hB : B = 2 ^ 36 := rfl
  unfold Ze2
  refine (ZlW l (fun b => Zej h b) (fun b v => .inl (b ++ [v])) (fun b => some ((), (Zej h b, ()))) (fun i b => b = l.take i) ?_ ?_ ?_ [] rfl _ (Nat.lt_succ_self _)).trans ?_
  · intro i b v k' hv hlt hb
    subst hb
    have hmem := List.mem_of_getElem? hv
    have hs := ZeM hmem
    have hm1 := Zk6 hmem
    have hl := ZeS l
    have hi : IntKind.i64.wrap ((i : Int) + 1) = ((i + 1 : Nat) : Int) := Za1 (by omega)
    have hbel : ∀ g : Bm, (if Zaq v.l < k then Ya3 v.l (g, ()) else none) = some ((), (Zej g v.l, ())) := fun g => (if_pos (by omega)).trans (Zrq (by omega))
    simp only [Zdp, Zbh hv, Option.bind_some, dlt hlt, cond_true, Val.eta, hi, Bool.cond_self, hbel, ZwX, Val.uses_eq, List.foldl_append]
    cases e1 : v.ref
    · simp only [cond_false, Bool.false_and, Bool.false_eq_true, if_false, List.foldl_nil]; rfl
    · simp only [cond_true, Bool.true_and, Option.bind_some, Zl7 (show v.tot ≤ B by omega)]
      cases e2 : ((Zav v.l).1 != [])
      · simp only [cond_false, Bool.false_eq_true, if_false, List.foldl_nil]; rfl
      · simp only [cond_true, if_true, List.foldl_cons, List.foldl_nil]; rfl
  · intro i b v b' hv hb hs
    cases hs
    rw [ZbJ hv, hb]
  · intro b k' hb
    simp only [Zdp, Zpc, cond_false]
  · rw [Zd6 (fun (b : List Val) (v : Val) => b ++ [v]), ZfA]
theorem Zqu {K : Zaa} (hK : Zc2 K) : Zed U (Zab C K) 36 ⟨[.ty 22, .ref (.map 9 4)], [], Ya3⟩ :=
  Zvc (U := U) (ak := [.ty 22, .ref (.map 9 4)]) (rts := []) Zaq Ya3 fun k ih => Zi6 (kf hK 36 (by decide)) _ _ _ (Zr2 hK) (Zsg hK) ih _ fun a cs r h => by
    by_cases h1 : Zaq a < k + 1
    · have h2 : Ya3 a cs = some r := (if_pos h1).symm.trans h
      unfold Ya3 at h2
      by_cases h3 : Zaq a ≤ B
      · rw [if_pos h3] at h2; cases h2; exact ⟨_, ZyP a cs.1 k h1 h3⟩
      · rw [if_neg h3] at h2; cases h2
    · have h2 : none = some r := (if_neg h1).symm.trans h
      cases h2
noncomputable def ZhZ (c : List Cus) : Option Bool := if Zjh c then ZfP Zq1 Zmm (c.length + 2) c else none
theorem ZyC {K : Zaa} (hK : Zc2 K) : Zap U (Zab C K) 10 ⟨true, [.ty 23], [4], ZhZ⟩ :=
  Zjj (kf hK 10 (by decide)) _ _ (Ybe hK) (YaB hK) _ fun a r h => by
    unfold ZhZ at h
    split at h
    · exact ⟨_, h⟩
    · cases h
theorem Zr0 {c : List Cus} (h : Zjh c) : ∃ b, ZhZ c = some b := by
  have hB : B = 2 ^ 36 := rfl
  have hV : V = 2 ^ 24 := rfl
  unfold ZhZ
  rw [if_pos h]
  unfold ZfP Zoi
  have main : ∀ (r : List Cus) (i : Nat) (acc : Int) (fuel : Nat), c.drop i = r → i ≤ c.length → r.length + 1 < fuel → ∃ b, Zgs (fun y k_1 => ZcM Zq1 Zmm (c.length + 2) c (fun z1 z2 =>
      Option.bind (some (bif decide ((c.length : Int) > 70) then true else decide (z2 > 1500))) fun m3 => some m3) (fun z4 => some z4) y.1 y.2.1 y.2.2.1 fun a0 a1 a2 => k_1 (a0, a1, a2, ())) fuel (false, acc, (i : Int), ()) = some b := by
    intro r
    induction r with
    | nil =>
      intro i acc fuel hr hi hf
      obtain ⟨n, rfl⟩ : ∃ n, fuel = n + 1 := ⟨fuel - 1, by omega⟩
      have : i = c.length := by
        have := congrArg List.length hr
        simp at this; omega
      subst this
      simp only [Zgs, ZcM, Zpc, cond_false, Option.bind_some]
      exact ⟨_, rfl⟩
    | cons v r ih =>
      intro i acc fuel hr hi hf
      obtain ⟨n, rfl⟩ : ∃ n, fuel = n + 1 := ⟨fuel - 1, by omega⟩
      have hv : c[i]? = some v := by
        have := congrArg (fun x => x[0]?) hr
        simpa using this
      have hlt : i < c.length := (List.getElem?_eq_some_iff.1 hv).1
      have hr' : c.drop (i + 1) = r := by rw [← List.drop_drop, hr]; rfl
      have hvm := h.2 v (List.mem_of_getElem? hv)
      have hl := h.1
      have hi2 : IntKind.i64.wrap ((i : Int) + 1) = ((i + 1 : Nat) : Int) := Za1 (by omega)
      simp only [Zgs, ZcM, dlt hlt, cond_true, Option.bind_some, Zbh hv, Zwm (show Zaq v.val ≤ B by omega), ZoP (show Zaq v.val ≤ B by omega), hi2]
      cases decide ((i : Int) ≤ 70)
      · exact ⟨_, rfl⟩
      · simp only [cond_true]
        cases ZvM v.val
        · simp only [Bool.not_false, cond_true, cond_false, Option.bind_some]
          cases decide ((v.name.length : Int) > 100)
          · exact ih (i + 1) _ n hr' (by omega) (by simp at hf; omega)
          · exact ⟨_, rfl⟩
        · exact ⟨_, rfl⟩
  exact main c 0 0 (c.length + 2) rfl (Nat.zero_le _) (by omega)
end Go.Tev.S1
namespace Go.Tev
open Go.Abs
def ZrR (x : List UInt8) : List (List UInt8) → List (List UInt8)
  | [] => [x]
  | y :: r => if Op.bytesLess y x then y :: ZrR x r else if y == x then y :: r else x :: y :: r
def Zde (l : List (List UInt8)) : List (List UInt8) := l.foldl (fun o x => ZrR x o) []
theorem ZsR (x : List UInt8) : ∀ l, (ZrR x l).length ≤ l.length + 1
  | [] => Nat.le_refl _
  | y :: r => by
    have := ZsR x r
    unfold ZrR
    split
    · simp; omega
    · split <;> simp
end Go.Tev
namespace Go.Tev.S1
open Go.Abs Go.Proofs
theorem ZpP (l : List (List UInt8)) : (Zde l).length ≤ l.length := by
  have : ∀ (l o : List (List UInt8)), (l.foldl (fun o x => ZrR x o) o).length ≤ o.length + l.length := by
    intro l
    induction l with
    | nil => intro o; simp
    | cons x l ih =>
      intro o
      have h1 := ih (ZrR x o)
      have h2 := ZsR x o
      simp only [List.foldl_cons, List.length_cons]
      omega
  simpa [Zde] using this l []
end Go.Tev.S1
