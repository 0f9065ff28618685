/- A certified evaluator for the walked functions, and their contracts, for the laws of the variables. -/
import Derived.Test.YtnmlodkomklpfaaGreatLE
import Derived.Test.YtnmlodkomklpfaaGreatChecked
import Derived.KernelRfl
import Derived.Test.YtnmlodkomklpfaaGreatLG
set_option linter.unusedVariables false
set_option linter.unusedSimpArgs false
namespace Go.Abs
open Go.Proofs
def ann : FuncId → FA
  | 2 => ⟨1, [], [], [], [0], []⟩
  | 3 => ⟨84, [0, 1, 2, 6, 7, 8, 9, 10, 11, 12, 13, 33, 42], [], [], [14, 16, 19, 23, 27, 38, 52, 57, 63, 73], []⟩
  | 4 => ⟨118, [0, 1, 4, 5, 6, 7, 8, 9, 10, 11, 12, 13, 14, 15, 32, 40, 58, 62, 77, 89, 92, 101], [], [], [16, 18, 36, 54, 71, 99, 116], []⟩
  | 5 => ⟨342, [0, 1, 2, 3, 4, 5, 6, 7, 8, 9, 11, 13, 14, 15, 17, 19, 20, 21, 22, 23, 24, 26, 28, 30, 31, 32, 33, 34, 35, 36, 121, 137, 140], [], [], [37, 38, 39, 42, 44, 47, 51, 55, 59, 63, 67, 70, 74, 77, 80, 84, 88, 92, 96, 100, 104, 106, 108, 109, 111, 112, 114, 128, 135, 159, 165, 169, 173, 177, 180, 184, 187, 193, 197, 200, 204, 206, 208, 214, 221, 231, 235, 236, 240, 241, 272, 278, 285, 287, 296, 298, 312, 332], []⟩
  | 6 => ⟨100, [0, 2, 3, 4, 5, 6, 7, 8, 9, 16, 24, 34, 50, 61, 93], [], [], [10, 12, 20, 43, 46, 57, 67, 89, 97], []⟩
  | 7 => ⟨87, [0, 2, 3, 4, 5, 6, 7, 8, 9, 10, 11, 18, 26, 31, 36, 85], [], [], [12, 14, 22, 36, 43, 51, 56, 82], []⟩
  | 8 => ⟨39, [0, 1, 2, 3], [], [], [4, 7, 8, 9, 11, 15, 18, 22, 26, 34, 35, 37], []⟩
  | 9 => ⟨11, [0, 2], [], [], [4, 8], []⟩
  | 10 => ⟨45, [0, 2, 3, 4, 12, 29], [], [], [20, 36], []⟩
  | 11 => ⟨42, [0, 2, 3, 11, 15, 41], [], [], [9, 23, 31, 39], []⟩
  | 12 => ⟨24, [0, 1, 4, 5, 6, 7, 11, 16], [], [], [9, 14, 20, 21], [21]⟩
  | 13 => ⟨18, [0, 2, 3, 4, 5, 9], [], [], [7, 14, 16, 17], []⟩
  | 14 => ⟨5, [0, 2], [], [], [4], []⟩
  | 15 => ⟨42, [0, 1, 4, 5, 10, 14, 41], [], [], [39], []⟩
  | 16 => ⟨28, [0, 2, 3, 5, 6, 9, 12, 13, 14, 15, 16, 23], [], [], [11, 21, 27], []⟩
  | 17 => ⟨20, [0, 1, 4, 5, 9, 18], [], [], [], []⟩
  | 18 => ⟨42, [0, 1, 4, 5, 10, 14, 41], [], [], [39], []⟩
  | 19 => ⟨9, [0, 1, 4], [], [], [7], []⟩
  | 20 => ⟨24, [0, 1, 2, 6, 7, 8], [], [], [11, 13, 21, 22], []⟩
  | 21 => ⟨24, [0, 1, 2, 6, 7, 8], [], [], [11, 13], []⟩
  | 22 => ⟨35, [0, 2, 4, 12, 13, 14, 15, 16, 33], [], [], [10, 21, 26, 31], []⟩
  | 23 => ⟨18, [0, 2, 3, 5], [], [], [9, 14], []⟩
  | 24 => ⟨12, [0, 2, 3, 4, 8], [], [], [6, 11], []⟩
  | 25 => ⟨26, [0, 1, 4, 5, 10, 14, 25], [], [], [], []⟩
  | 26 => ⟨65, [0, 1, 4, 5, 6, 7, 8, 10, 11, 19, 37, 48, 57], [6], [], [31, 45], []⟩
  | 27 => ⟨47, [0, 1, 4, 5, 6, 15], [], [], [43], []⟩
  | 28 => ⟨29, [0, 2, 3, 4, 8, 18], [], [], [17, 25], []⟩
  | 29 => ⟨35, [0, 2, 3, 7, 34], [], [], [15], []⟩
  | 30 => ⟨13, [0, 2, 5, 9, 12], [], [], [4, 7, 11], []⟩
  | 31 => ⟨33, [0, 2, 3, 4, 8, 32], [], [], [22, 31], []⟩
  | 32 => ⟨37, [0, 2, 3, 4, 8], [], [], [33], []⟩
  | 33 => ⟨17, [0, 2, 3, 6, 10, 14], [], [], [5], []⟩
  | 34 => ⟨31, [0, 1, 4, 5, 6, 7, 8, 12, 15, 28], [], [], [11, 20, 24, 26], [11, 24]⟩
  | 35 => ⟨20, [0, 2, 3, 5, 7, 8, 9, 10], [], [], [], []⟩
  | 36 => ⟨32, [0, 1, 5, 6, 9, 10, 11, 12, 16, 24], [], [], [16, 19, 30], []⟩
  | 37 => ⟨9, [0, 2, 3], [], [], [5, 7], []⟩
  | 38 => ⟨4, [0, 1, 2], [], [1], [], []⟩
  | 39 => ⟨9, [0, 1, 4], [], [], [7], []⟩
  | 40 => ⟨19, [0, 1, 2], [], [], [11, 17], []⟩
  | 41 => ⟨30, [0, 2, 3, 4, 5, 8, 9, 10, 11, 20], [], [], [], []⟩
  | 42 => ⟨25, [0, 2, 3, 5, 6, 7, 8, 9, 21], [], [], [14], []⟩
  | 43 => ⟨118, [0, 2, 3, 4, 5, 6, 7, 9, 11, 12, 13, 14, 16, 17, 18, 19, 21, 22, 23, 30, 32, 36, 39, 40, 41, 42, 53, 60, 62, 71, 72, 89, 95, 96, 97, 98, 108], [19], [], [25, 28, 58, 80, 87], [80]⟩
  | 44 => ⟨30, [0, 2, 3, 5, 6, 7, 8, 9], [], [], [25], []⟩
  | 45 => ⟨25, [0, 2, 3, 4, 5, 6, 14, 23], [], [], [10, 18], []⟩
  | 46 => ⟨21, [0, 2, 3, 4, 5, 8, 15, 19], [], [], [11, 17], []⟩
  | 47 => ⟨11, [0, 2, 3, 4, 6, 9], [], [], [], []⟩
  | 48 => ⟨16, [0, 2], [], [], [], []⟩
  | 49 => ⟨43, [0, 2, 3, 4, 5, 9, 28], [3], [], [26, 35], []⟩
  | 50 => ⟨59, [0, 1, 4, 5, 6, 10, 58], [], [], [19, 55], []⟩
  | 51 => ⟨33, [0, 2, 3, 4, 10, 24], [], [], [], []⟩
  | 52 => ⟨71, [0, 1, 4, 5, 7, 8, 9, 10, 11, 12, 13, 42, 45], [], [], [23, 49], []⟩
  | 53 => ⟨67, [0, 1, 4, 5, 7, 8, 9, 10, 11, 12, 13, 14, 15, 16, 17, 22, 51, 55, 61], [], [], [21, 38, 41, 54, 59], [38, 59]⟩
  | 54 => ⟨53, [0, 1, 4, 5, 7, 8, 9, 11, 12, 13, 14, 15, 16, 21, 44], [5], [], [20, 28, 34, 49], [28, 49]⟩
  | 55 => ⟨34, [0, 1, 2, 3], [], [], [], []⟩
  | 56 => ⟨54, [0, 1, 2, 3, 4, 5, 6, 29, 38, 43], [], [], [9, 27, 37, 53], []⟩
  | 57 => ⟨5, [0, 2], [], [], [4], []⟩
  | 58 => ⟨11, [0, 2], [], [], [9, 10], []⟩
  | 59 => ⟨14, [0, 1, 3, 5, 7, 13], [], [], [12], []⟩
  | 60 => ⟨19, [0, 1, 4, 5, 7, 8, 9, 16], [], [], [16], []⟩
  | 61 => ⟨15, [0, 2], [], [], [4], []⟩
  | 62 => ⟨52, [0, 2, 3, 5, 6, 8, 9, 10, 12, 13, 14, 15, 31, 32, 33, 34], [], [3, 9, 10], [28, 42], []⟩
  | 63 => ⟨9, [0, 2, 3, 6], [], [], [8], []⟩
  | 64 => ⟨36, [0, 2, 3, 4, 5, 6, 7, 8, 14], [4, 5], [], [10, 18, 33], []⟩
  | 65 => ⟨14, [0, 2, 3, 4, 5], [], [], [8], []⟩
  | 66 => ⟨12, [0, 2, 3, 4, 6], [], [], [], []⟩
  | 67 => ⟨17, [0, 2, 13], [], [], [], []⟩
  | 68 => ⟨25, [0, 2, 18], [], [], [4], []⟩
  | 69 => ⟨13, [0, 1, 2, 4, 5, 6, 7], [], [], [], []⟩
  | 70 => ⟨134, [0, 1, 2, 3, 8, 9, 10, 11, 12, 13, 14, 15, 16, 17, 18, 23, 29, 35, 50, 68, 72, 87, 113], [], [], [27, 33, 39, 46, 54, 72, 85, 92, 99, 121, 132], []⟩
  | 71 => ⟨8, [0, 2], [], [], [5, 7], []⟩
  | 72 => ⟨8, [0, 1, 4], [], [], [7], []⟩
  | 73 => ⟨29, [0, 1, 2, 3, 5, 9, 11, 23], [], [], [28], []⟩
  | 74 => ⟨46, [0, 2, 3, 4, 5, 9, 27, 33, 35], [], [], [], []⟩
  | 75 => ⟨28, [0, 1, 4, 7, 19], [], [], [7, 17], []⟩
  | 76 => ⟨138, [0, 1, 4, 5, 6, 7, 8, 9, 10, 14, 21, 33, 70, 79, 86, 93, 112, 121], [], [], [16, 20, 30, 47, 53, 60, 67, 73, 76, 82, 89, 100, 106, 115, 118, 123, 126], []⟩
  | 77 => ⟨67, [0, 1, 2, 3, 8, 9, 10, 11, 12, 29, 42, 44, 56], [10], [], [40, 51], []⟩
  | 78 => ⟨49, [0, 1, 2, 6, 7, 12, 30], [], [], [29], []⟩
  | 79 => ⟨56, [0, 1, 2, 6, 7, 8, 9, 10, 19, 30], [], [], [26, 55], []⟩
  | 80 => ⟨65, [0, 1, 2, 6, 7, 8, 9, 10, 15, 33, 43], [], [7], [19, 36], []⟩
  | 81 => ⟨57, [0, 1, 2, 6, 7, 8, 9, 10, 11, 12, 32, 34, 49, 51, 54], [], [9], [37, 40, 43, 48], []⟩
  | 82 => ⟨32, [0, 1, 2, 6, 7, 13], [], [], [], []⟩
  | 83 => ⟨133, [0, 1, 2, 6, 7, 8, 9, 10, 14, 32, 37, 41, 61, 65, 78, 98, 103, 116], [], [], [30, 77, 115], []⟩
  | 84 => ⟨17, [0, 1, 4], [], [], [6, 9], []⟩
  | 85 => ⟨84, [0, 1, 2, 3, 8, 9, 10, 43, 59, 64], [], [], [41, 58], []⟩
  | 86 => ⟨168, [0, 1, 2, 3, 8, 9, 10, 11, 43, 60, 65, 112, 129, 134], [], [], [42, 58, 111, 127], []⟩
  | 87 => ⟨19, [0, 2, 4, 8], [], [], [], []⟩
  | 88 => ⟨25, [0, 2, 4, 8, 14], [], [], [], []⟩
  | 89 => ⟨18, [0, 1, 4], [], [], [], []⟩
  | 90 => ⟨25, [0, 1, 2, 6], [], [], [], []⟩
  | 91 => ⟨13, [0, 2], [], [], [], []⟩
  | 92 => ⟨12, [0, 1, 4, 8], [], [], [7, 8], []⟩
  | 93 => ⟨94, [0, 1, 4, 5, 6, 7, 8, 9, 19, 31, 40, 47, 61, 75], [], [], [83], []⟩
  | 94 => ⟨13, [0, 2], [], [], [4, 7], []⟩
  | 95 => ⟨16, [0, 1, 4], [], [], [7, 13], []⟩
  | 96 => ⟨49, [0, 1, 4, 5, 6, 7, 8, 18, 36], [], [], [17, 35, 40], []⟩
  | 97 => ⟨36, [0, 1, 4, 8], [], [], [7, 12, 13, 18, 25, 29, 30, 34], []⟩
  | 98 => ⟨27, [0, 1, 4, 5, 14, 20], [], [], [8, 19, 25, 26], []⟩
  | 99 => ⟨43, [0, 1, 4, 5, 6, 7, 8, 24, 36], [], [], [12, 19, 24, 29, 35], []⟩
  | 100 => ⟨46, [0, 1, 4, 5, 6, 7, 8, 18, 23, 35], [], [], [12, 17, 23, 28, 29, 39], []⟩
  | 101 => ⟨22, [0, 2, 3, 4, 6, 8, 10, 12, 14, 16, 18, 20], [], [], [], []⟩
  | 102 => ⟨76, [0, 1, 2, 3, 8, 9, 16, 36, 52], [], [], [35, 51], []⟩
  | 103 => ⟨7, [0, 2], [], [], [5], []⟩
  | 104 => ⟨33, [0, 2], [], [], [], []⟩
  | 105 => ⟨15, [0, 1, 2, 6], [], [], [14], []⟩
  | 106 => ⟨36, [0, 1, 2, 3, 4, 10], [], [], [16, 24, 32], []⟩
  | 107 => ⟨6, [0, 2], [], [], [], []⟩
  | 108 => ⟨12, [0, 1, 4, 8], [], [], [], []⟩
  | 109 => ⟨64, [0, 1, 4, 5, 6, 7, 13, 20, 45, 58], [], [], [14, 19, 43, 51, 57, 58, 62], []⟩
  | 110 => ⟨20, [0, 2, 3], [], [], [5], []⟩
  | 111 => ⟨9, [0, 2], [], [], [], []⟩
  | 112 => ⟨71, [0, 1, 4, 5, 6, 7, 8, 9, 10, 19, 35, 48, 59, 65], [], [], [13, 24, 27, 33, 34, 39, 42, 53, 64, 65, 68], []⟩
  | 113 => ⟨138, [0, 2, 3, 4, 5, 6, 7, 8, 9, 10, 19, 25, 38, 44, 59, 72, 78, 90, 107, 128, 134], [], [], [24, 25, 37, 43, 44], []⟩
  | 114 => ⟨10, [0, 1, 4], [], [], [6, 8], []⟩
  | 115 => ⟨110, [0, 1, 4, 5, 6, 7, 8, 9, 23, 38, 53, 59, 89], [], [], [13, 40, 43, 56, 72, 80, 86, 95], []⟩
  | 116 => ⟨28, [0, 1, 2, 3, 8, 9, 18], [], [], [18], []⟩
  | 117 => ⟨3, [0], [], [], [], []⟩
  | 118 => ⟨20, [0, 2, 4, 15], [], [], [4, 9], []⟩
  | 119 => ⟨73, [0, 2, 16, 19, 25, 37], [], [], [17], []⟩
  | 120 => ⟨13, [0, 2, 8], [], [], [], []⟩
  | 121 => ⟨12, [0, 1, 4, 8], [], [], [7, 8], []⟩
  | 122 => ⟨23, [0, 2, 3, 4, 10], [], [], [19], []⟩
  | 123 => ⟨33, [0, 1, 4, 5, 15, 18], [], [], [18, 22], []⟩
  | 124 => ⟨21, [0, 2], [], [], [], []⟩
  | _ => ⟨0, [], [], [], [], []⟩
theorem A13 : (ann 13).nt = 18 ∧ (ann 13).keep = [0, 2, 3, 4, 5, 9] ∧ (ann 13).take = [] ∧ (ann 13).heapy = [] ∧ (ann 13).frz = [7, 14, 16, 17] ∧ (ann 13).lend = [] := ⟨rfl, rfl, rfl, rfl, rfl, rfl⟩
theorem A38 : (ann 38).nt = 4 ∧ (ann 38).keep = [0, 1, 2] ∧ (ann 38).take = [] ∧ (ann 38).heapy = [1] ∧ (ann 38).frz = [] ∧ (ann 38).lend = [] := ⟨rfl, rfl, rfl, rfl, rfl, rfl⟩
noncomputable def C : Ctx := ⟨Tryz.prog, ann⟩
def Zcp (K : Zaa) : Prop := ∀ (f : Nat) a h, f ∉ [8, 37, 43, 62, 73] → K f a h = none
theorem Zyu : C.ann = ann := rfl
theorem Zyr (a b : Nat) : Nat.beq a b = (a == b) := by rw [Bool.eq_iff_iff]; simp [Nat.beq_eq]
theorem Zyp (a b : Nat) : Nat.ble a b = decide (a ≤ b) := by rw [Bool.eq_iff_iff]; simp [Nat.ble_eq]
theorem Zyw (a b : Nat) : Nat.blt a b = decide (a < b) := by rw [Bool.eq_iff_iff]; simp [Nat.blt_eq]
theorem Yc3 {i n : Nat} (h : i < n) : idx (i : Int) n = some i := by unfold idx; rw [if_pos ⟨by omega, by omega⟩]; simp
end Go.Abs
namespace Go.Tev.S1
open Go.Abs Go.Proofs
theorem hC (t : Nat) (h : (U.cells t).isSome = true) : C.isAgg t = some (isT t) := by
  by_cases h2 : t = 2
  · subst h2; kernel_rfl
  by_cases h3 : t = 3
  · subst h3; kernel_rfl
  by_cases h4 : t = 4
  · subst h4; kernel_rfl
  by_cases h5 : t = 5
  · subst h5; kernel_rfl
  by_cases h9 : t = 9
  · subst h9; kernel_rfl
  by_cases h22 : t = 22
  · subst h22; kernel_rfl
  by_cases h23 : t = 23
  · subst h23; kernel_rfl
  by_cases h28 : t = 28
  · subst h28; kernel_rfl
  by_cases h31 : t = 31
  · subst h31; kernel_rfl
  by_cases h39 : t = 39
  · subst h39; kernel_rfl
  by_cases h46 : t = 46
  · subst h46; kernel_rfl
  by_cases h49 : t = 49
  · subst h49; kernel_rfl
  by_cases h51 : t = 51
  · subst h51; kernel_rfl
  by_cases h60 : t = 60
  · subst h60; kernel_rfl
  by_cases h62 : t = 62
  · subst h62; kernel_rfl
  by_cases h72 : t = 72
  · subst h72; kernel_rfl
  by_cases h77 : t = 77
  · subst h77; kernel_rfl
  by_cases h78 : t = 78
  · subst h78; kernel_rfl
  by_cases h84 : t = 84
  · subst h84; kernel_rfl
  by_cases h92 : t = 92
  · subst h92; kernel_rfl
  by_cases h107 : t = 107
  · subst h107; kernel_rfl
  change (cells t).isSome = true at h
  unfold cells at h
  split at h <;> first | (exfalso; contradiction) | (cases h; done)
theorem hZ (t : Nat) (cs : List (TV U.X)) (h : U.zcells t = some cs) : ∃ z, C.zero t = some z ∧ dvL U cs = some z.cells ∧ z.cellOk = true ∧ (C.isAgg t = some true → z = .agg z.cells) := by
  by_cases h2 : t = 2
  · subst h2; cases h; exact ⟨.int .i64 0, by kernel_rfl, rfl, rfl, fun h => by rw [hC 2 rfl] at h; cases h⟩
  by_cases h3 : t = 3
  · subst h3; cases h; exact ⟨.int .i64 0, by kernel_rfl, rfl, rfl, fun h => by rw [hC 3 rfl] at h; cases h⟩
  by_cases h4 : t = 4
  · subst h4; cases h; exact ⟨.bool false, by kernel_rfl, rfl, rfl, fun h => by rw [hC 4 rfl] at h; cases h⟩
  by_cases h5 : t = 5
  · subst h5; cases h; exact ⟨.int .u8 0, by kernel_rfl, rfl, rfl, fun h => by rw [hC 5 rfl] at h; cases h⟩
  by_cases h9 : t = 9
  · subst h9; cases h; exact ⟨.str [], by kernel_rfl, rfl, rfl, fun h => by rw [hC 9 rfl] at h; cases h⟩
  by_cases h22 : t = 22
  · subst h22; cases h; exact ⟨.slc [], by kernel_rfl, rfl, rfl, fun h => by rw [hC 22 rfl] at h; cases h⟩
  by_cases h23 : t = 23
  · subst h23; cases h; exact ⟨.slc [], by kernel_rfl, rfl, rfl, fun h => by rw [hC 23 rfl] at h; cases h⟩
  by_cases h28 : t = 28
  · subst h28; cases h; exact ⟨.int .i64 0, by kernel_rfl, rfl, rfl, fun h => by rw [hC 28 rfl] at h; cases h⟩
  by_cases h31 : t = 31
  · subst h31; cases h; exact ⟨.slc [], by kernel_rfl, rfl, rfl, fun h => by rw [hC 31 rfl] at h; cases h⟩
  by_cases h39 : t = 39
  · subst h39; cases h; exact ⟨.agg [.str [], .slc []], by kernel_rfl, rfl, rfl, fun h => rfl⟩
  by_cases h46 : t = 46
  · subst h46; cases h; exact ⟨.slc [], by kernel_rfl, rfl, rfl, fun h => by rw [hC 46 rfl] at h; cases h⟩
  by_cases h49 : t = 49
  · subst h49; cases h; exact ⟨.agg [.int .u8 0, .str [], .int .i64 0, .str [], .bool false], by kernel_rfl, rfl, rfl, fun h => rfl⟩
  by_cases h51 : t = 51
  · subst h51; cases h; exact ⟨.agg [.int .u8 0, .str [], .int .i64 0, .str [], .bool false, .slc []], by kernel_rfl, rfl, rfl, fun h => rfl⟩
  by_cases h60 : t = 60
  · subst h60; cases h; exact ⟨.nilm, by kernel_rfl, rfl, rfl, fun h => by rw [hC 60 rfl] at h; cases h⟩
  by_cases h62 : t = 62
  · subst h62; cases h; exact ⟨.nilm, by kernel_rfl, rfl, rfl, fun h => by rw [hC 62 rfl] at h; cases h⟩
  by_cases h72 : t = 72
  · subst h72; cases h; exact ⟨.slc [], by kernel_rfl, rfl, rfl, fun h => by rw [hC 72 rfl] at h; cases h⟩
  by_cases h77 : t = 77
  · subst h77; cases h; exact ⟨.slc [], by kernel_rfl, rfl, rfl, fun h => by rw [hC 77 rfl] at h; cases h⟩
  by_cases h78 : t = 78
  · subst h78; cases h; exact ⟨.slc [], by kernel_rfl, rfl, rfl, fun h => by rw [hC 78 rfl] at h; cases h⟩
  by_cases h84 : t = 84
  · subst h84; cases h; exact ⟨.agg [.int .i64 0, .int .i64 0, .bool false], by kernel_rfl, rfl, rfl, fun h => rfl⟩
  by_cases h92 : t = 92
  · subst h92; cases h; exact ⟨.slc [], by kernel_rfl, rfl, rfl, fun h => by rw [hC 92 rfl] at h; cases h⟩
  by_cases h107 : t = 107
  · subst h107; cases h; exact ⟨.nilm, by kernel_rfl, rfl, rfl, fun h => by rw [hC 107 rfl] at h; cases h⟩
  change zcells t = some cs at h
  unfold zcells at h
  split at h <;> first | (exfalso; contradiction) | (cases h; done)
theorem hD (t : Nat) (h : U.dok t = true) : C.zero t = some (U.enc t (U.dflt t)) := by
  by_cases h2 : t = 2
  · subst h2; first | (cases h; done) | kernel_rfl
  by_cases h3 : t = 3
  · subst h3; first | (cases h; done) | kernel_rfl
  by_cases h4 : t = 4
  · subst h4; first | (cases h; done) | kernel_rfl
  by_cases h5 : t = 5
  · subst h5; first | (cases h; done) | kernel_rfl
  by_cases h9 : t = 9
  · subst h9; first | (cases h; done) | kernel_rfl
  by_cases h22 : t = 22
  · subst h22; first | (cases h; done) | kernel_rfl
  by_cases h23 : t = 23
  · subst h23; first | (cases h; done) | kernel_rfl
  by_cases h28 : t = 28
  · subst h28; first | (cases h; done) | kernel_rfl
  by_cases h31 : t = 31
  · subst h31; first | (cases h; done) | kernel_rfl
  by_cases h39 : t = 39
  · subst h39; first | (cases h; done) | kernel_rfl
  by_cases h46 : t = 46
  · subst h46; first | (cases h; done) | kernel_rfl
  by_cases h49 : t = 49
  · subst h49; first | (cases h; done) | kernel_rfl
  by_cases h51 : t = 51
  · subst h51; first | (cases h; done) | kernel_rfl
  by_cases h60 : t = 60
  · subst h60; first | (cases h; done) | kernel_rfl
  by_cases h62 : t = 62
  · subst h62; first | (cases h; done) | kernel_rfl
  by_cases h72 : t = 72
  · subst h72; first | (cases h; done) | kernel_rfl
  by_cases h77 : t = 77
  · subst h77; first | (cases h; done) | kernel_rfl
  by_cases h78 : t = 78
  · subst h78; first | (cases h; done) | kernel_rfl
  by_cases h84 : t = 84
  · subst h84; first | (cases h; done) | kernel_rfl
  by_cases h92 : t = 92
  · subst h92; first | (cases h; done) | kernel_rfl
  by_cases h107 : t = 107
  · subst h107; first | (cases h; done) | kernel_rfl
  change (tyB t).dok = true at h
  unfold tyB at h
  split at h <;> first | (exfalso; contradiction) | (cases h; done)
theorem hE (t : Nat) (f : U.X t → U.X t → Bool) (h : U.eqT t = some f) : C.P.eqGuardType C.P.depth t = false ∧ ∀ a b, U.enc t a = .agg (U.enc t a).cells ∧ Zm1 C 100 t (U.enc t a) (U.enc t b) = some (f a b) := by
  by_cases h49 : t = 49
  · subst h49; cases h; refine ⟨by kernel_rfl, fun a b => ⟨rfl, ?_⟩⟩
    have key : ∀ b0 b1 b2 b3 b4 : Bool, (bif b0 then bif b1 then bif b2 then bif b3 then bif b4 then some true else some false else some false else some false else some false else some false) = some (b0 && b1 && b2 && b3 && b4) := by decide
    exact (show _ = _ by kernel_rfl : Zm1 C 100 49 (U.enc 49 a) (U.enc 49 b) = (bif (a : Tok).k == (b : Tok).k then bif (a : Tok).t == (b : Tok).t then bif (a : Tok).n == (b : Tok).n then bif (a : Tok).u == (b : Tok).u then bif (a : Tok).f == (b : Tok).f then some true else some false else some false else some false else some false else some false)).trans (key _ _ _ _ _)
  by_cases h84 : t = 84
  · subst h84; cases h; refine ⟨by kernel_rfl, fun a b => ⟨rfl, ?_⟩⟩
    have key : ∀ b0 b1 b2 : Bool, (bif b0 then bif b1 then bif b2 then some true else some false else some false else some false) = some (b0 && b1 && b2) := by decide
    exact (show _ = _ by kernel_rfl : Zm1 C 100 84 (U.enc 84 a) (U.enc 84 b) = (bif (a : Fnd).d == (b : Fnd).d then bif (a : Fnd).t == (b : Fnd).t then bif (a : Fnd).b == (b : Fnd).b then some true else some false else some false else some false)).trans (key _ _ _)
  change eqT t = some f at h
  unfold eqT at h
  split at h <;> first | (exfalso; contradiction) | (cases h; done)
theorem ok : U.Ok C where
  inj := Ydy
  prj := YdL
  pack := Yba
  cells := Zy9
  csz := Ydz
  ok := Yem
  noagg := ZyJ C hC
  agg := Ydm C hC
  zcells := hZ
  dok := hD
  keq := YdS
  noMap := ZyO
  eqT := hE
  bytes := Zzj
end Go.Tev.S1
namespace Go.Tev.S1
open Go.Abs Go.Proofs
abbrev T1a : Type := Int → Option Int
abbrev T1b : Type := (List Val) × Int → Option Fnd
abbrev T1c : Type := (List Val) → Option Int
abbrev T1d : Type := (List Val) → Option (List Tok)
abbrev T1e : Type := (List Val) × Int → Option Bool
abbrev T1f : Type := (List Val) × Int → Option Int
abbrev T1g : Type := (List Val) × (List Val) → Option Bool
abbrev T1h : Type := (List UInt8) × (List UInt8) → Option Bool
abbrev P1a (K : Zaa) (t : T1a) : Prop := Zag U (Zab C K) 66 ⟨true, [.ty 5], [5], t⟩
abbrev P1b (K : Zaa) (t : T1b) : Prop := Zag U (Zab C K) 52 ⟨true, [.ty 22, .ty 5], [84], t⟩
abbrev P1c (K : Zaa) (t : T1a) : Prop := Zag U (Zab C K) 47 ⟨true, [.ty 5], [5], t⟩
abbrev P1d (K : Zaa) (t : T1c) : Prop := Zag U (Zab C K) 28 ⟨true, [.ty 22], [3], t⟩
abbrev P1e (K : Zaa) (t : T1d) : Prop := Zag U (Zab C K) 49 ⟨true, [.ty 22], [72], t⟩
abbrev P1f (K : Zaa) (t : T1e) : Prop := Zag U (Zab C K) 50 ⟨true, [.ty 22, .ty 5], [4], t⟩
abbrev P1g (K : Zaa) (t : T1f) : Prop := Zag U (Zab C K) 27 ⟨true, [.ty 22, .ty 3], [3], t⟩
abbrev P1h (K : Zaa) (t : T1g) : Prop := Zag U (Zab C K) 15 ⟨true, [.ty 22, .ty 22], [4], t⟩
abbrev P1i (K : Zaa) (t : T1h) : Prop := Zag U (Zab C K) 89 ⟨true, [.ty 9, .ty 9], [4], t⟩
abbrev P1j (K : Zaa) (t : T1h) : Prop := Zag U (Zab C K) 72 ⟨true, [.ty 9, .ty 9], [4], t⟩
def Zf3 (n : Nat) (p0 : Int) : Option Int :=
  cond (p0 == (2 : Int))
  (some (22 : Int))
  (Option.bind (some (cond (p0 == (21 : Int)) (p0 == (21 : Int)) (p0 == (23 : Int)))) fun m1 =>
  Option.bind (some (cond (p0 == (19 : Int)) (p0 == (19 : Int)) m1)) fun m2 =>
  cond m2
  (some (IntKind.u8.wrap (p0 + (1 : Int))))
  (some (0 : Int)))
abbrev ZpB : List (Nat × TCall X) := []
noncomputable abbrev Zev : Cx := ⟨C, U, ZpB , [], fun _ => []⟩
theorem Zm8 : okF (C.ann 66) Tryz.f66 1 = true := by kernel_rfl
noncomputable abbrev Zgv (n : Nat) : Zek (Zev ) (PX X [5]) := []
theorem ZpY (n : Nat) : ∀ a, fnL (Zev ) true 66 Tryz.f66 [.ty 5] [5] (Zgv n) a = Zf3 n a := by
  intro a
  kernel_rfl
theorem Znm {K : Zaa} : CallsOk (Zev ) (Zab C K) :=
  ⟨Zaw, Zav⟩
theorem ZjJ {K : Zaa} (hK : ∀ args h, K 66 args h = none) (t : PX X (AK.tys [.ty 5]) → Option (PX X [5])) (h : ∀ a r, t a = some r → ∃ n, Zf3 n a = some r) : Zag U (Zab C K) 66 ⟨true, [.ty 5], [5], t⟩ := by
  refine Zap (x := Zev ) (ak := [.ty 5]) (rts := [5]) (dir := true) ok (Znm ) hK Tryz.func66 Zm8 fun a r hr => ?_
  obtain ⟨n, hn⟩ := h a r hr
  exact ⟨n, Zgv n, (Zal (show Zak 0 (Zac Tryz.f66) = [] by kernel_rfl)), (ZpY n a).trans hn⟩
def Zfi (n : Nat) (p0 : Int) : Option Int :=
  cond (p0 == (19 : Int))
  (some (20 : Int))
  (Option.bind (some (cond (p0 == (21 : Int)) (p0 == (21 : Int)) (p0 == (2 : Int)))) fun m1 =>
  cond m1
  (some (22 : Int))
  (cond (p0 == (23 : Int))
  (some (24 : Int))
  (some (0 : Int))))
abbrev Znz : List (Nat × TCall X) := []
noncomputable abbrev Zeg : Cx := ⟨C, U, Znz , [], fun _ => []⟩
theorem ZlA : okF (C.ann 47) Tryz.f47 1 = true := by kernel_rfl
noncomputable abbrev ZfO (n : Nat) : Zek (Zeg ) (PX X [5]) := []
theorem ZnK (n : Nat) : ∀ a, fnL (Zeg ) true 47 Tryz.f47 [.ty 5] [5] (ZfO n) a = Zfi n a := by
  intro a
  kernel_rfl
theorem ZmI {K : Zaa} : CallsOk (Zeg ) (Zab C K) :=
  ⟨Zaw, Zav⟩
theorem ZiL {K : Zaa} (hK : ∀ args h, K 47 args h = none) (t : PX X (AK.tys [.ty 5]) → Option (PX X [5])) (h : ∀ a r, t a = some r → ∃ n, Zfi n a = some r) : Zag U (Zab C K) 47 ⟨true, [.ty 5], [5], t⟩ := by
  refine Zap (x := Zeg ) (ak := [.ty 5]) (rts := [5]) (dir := true) ok (ZmI ) hK Tryz.func47 ZlA fun a r hr => ?_
  obtain ⟨n, hn⟩ := h a r hr
  exact ⟨n, ZfO n, (Zal (show Zak 0 (Zac Tryz.f47) = [] by kernel_rfl)), (ZnK n a).trans hn⟩
def Ze6 (qa : T1a) (qb : T1b) {R : Type} (n : Nat) (a1 : Int) (a10 : List Val) (a11 : Int) (kx0 : (Int × Int × Bool) → (Int × Int × Bool) → Option R) (y4 : Int × Int × Bool) (y5 : Int × Int × Bool) (y12 : Int) (k : (Int × Int × Bool) → (Int × Int × Bool) → Int → Option R) : Option R :=
  cond (decide (y12 < a11))
  (Option.bind (ZdC a10 y12) fun x3 =>
  Option.bind (qa x3.tok.k) fun r4 =>
  Option.bind (some (cond (a1 != (0 : Int)) (x3.tok.k == a1) false)) fun m5 =>
  Option.bind (cond (!m5) (some (cond (r4 == (0 : Int)) (decide ((x3.l.length : Int) > (0 : Int))) false)) (some (decide ((x3.l.length : Int) > (0 : Int))))) fun m6 =>
  Option.bind (some (cond m5 true m6)) fun m7 =>
  Option.bind (some (cond m7 y4.1 y4.1)) fun m8 =>
  Option.bind (some (cond m7 y4.2.1 y4.2.1)) fun m9 =>
  Option.bind (some (cond m7 y4.2.2 y4.2.2)) fun m10 =>
  Option.bind (some (cond m7 y5.1 y5.1)) fun m11 =>
  Option.bind (some (cond m7 (IntKind.i64.wrap (y5.2.1 + (1 : Int))) (IntKind.i64.wrap (y5.2.1 + (1 : Int))))) fun m12 =>
  Option.bind (some (cond m7 true y5.2.2)) fun m13 =>
  Option.bind (some (cond m7 x3.tok.k x3.tok.k)) fun m14 =>
  Option.bind (some (cond m7 x3.tok.t x3.tok.t)) fun m15 =>
  Option.bind (some (cond m7 x3.tok.n x3.tok.n)) fun m16 =>
  Option.bind (some (cond m7 x3.tok.u x3.tok.u)) fun m17 =>
  Option.bind (some (cond m7 x3.tok.f x3.tok.f)) fun m18 =>
  Option.bind (some (cond m7 x3.l x3.l)) fun m19 =>
  cond (r4 == (0 : Int))
  (k (m8, m9, m10) (m11, m12, m13) (IntKind.i64.wrap (y12 + (1 : Int))))
  (Option.bind (qb (m19, r4)) fun r20 =>
  Option.bind (some (cond m13 true r20.b)) fun m21 =>
  k (m8, m9, m10) ((if IntKind.i64.wrap (r20.d + (1 : Int)) > m11 then IntKind.i64.wrap (r20.d + (1 : Int)) else m11), IntKind.i64.wrap ((IntKind.i64.wrap (m12 + r20.t)) + (1 : Int)), m21) (IntKind.i64.wrap (y12 + (1 : Int)))))
  (kx0 (y4.1, y4.2.1, y4.2.2) (y5.1, y5.2.1, y5.2.2))
def Zjj (qa : T1a) (qb : T1b) (n : Nat) (p0 : List Val) (p1 : Int) : Option Fnd :=
  ZqF (Ze6 qa qb n p1 p0 (p0.length : Int) (fun z1 z2 =>
  some (Fnd.mk z2.1 z2.2.1 z2.2.2))) n ((0 : Int), (0 : Int), false) ((0 : Int), (0 : Int), false) (0 : Int)
abbrev ZsP (qa : T1a) (qb : T1b) : List (Nat × TCall X) := [(66, ⟨true, [.ty 5], [5], qa⟩), (52, ⟨true, [.ty 22, .ty 5], [84], qb⟩)]
noncomputable abbrev Zdb (qa : T1a) (qb : T1b) : Cx := ⟨C, U, ZsP qa qb, [], fun _ => []⟩
theorem Zqa : okF (C.ann 52) Tryz.f52 2 = true := by kernel_rfl
abbrev nest_look_L0_D : LD := ⟨0, [.val 1 5, .val 10 22, .val 11 2], [.box 4 [2, 2, 4], .box 5 [2, 2, 4], .val 12 2], [(0, [.box 4 [2, 2, 4], .box 5 [2, 2, 4]])], []⟩
abbrev Zd2 (qa : T1a) (qb : T1b) (n : Nat) : LG U (PX X [84]) nest_look_L0_D := fun c kx kr y k => Ze6 qa qb n c.1 c.2.1 c.2.2.1 (fun z0 z1 => kx 0 (z0, z1, ())) y.1 y.2.1 y.2.2.1 (fun z0 z1 z2 => k (z0, z1, z2, ()))
noncomputable abbrev Zd0 (qa : T1a) (qb : T1b) (n : Nat) : Zek (Zdb qa qb) (PX X [84]) := [(0, Zeo U nest_look_L0_D (Zd2 qa qb n) n)]
theorem Znt (qa : T1a) (qb : T1b) (n : Nat) : ∀ c kx kr y k1, evL (Zdb qa qb) (ann 52) (Zd0 qa qb n) 0 (Zaj (Zac Tryz.f52) 0) (ZdT U nest_look_L0_D kx kr k1) (encS U nest_look_L0_D.cap nest_look_L0_D.din c y) = Zd2 qa qb n c (fun i z => kx i c z) kr y (fun y2 => k1 c y2) := by
  intro c kx kr y k1
  kernel_rfl
theorem Ztc (qa : T1a) (qb : T1b) (n : Nat) : ∀ a, fnL (Zdb qa qb) true 52 Tryz.f52 [.ty 22, .ty 5] [84] (Zd0 qa qb n) a = Zjj qa qb n a.1 a.2 := by
  intro a
  kernel_rfl
theorem Zkv {K : Zaa} (qa : T1a) (qb : T1b) (h0 : P1a K qa) (h1 : P1b K qb) : CallsOk (Zdb qa qb) (Zab C K) :=
  ⟨(Zae h0 (Zae h1 Zaw)), Zav⟩
theorem ZkM {K : Zaa} (qa : T1a) (qb : T1b) (h0 : P1a K qa) (h1 : P1b K qb) (n : Nat) (b0 : Base) (bn0 : b0.nr ≤ 0) : Law (Zdb qa qb) b0 (Zab C K) (ann 52) n (Zaj (Zac Tryz.f52) 0) (Zeo U nest_look_L0_D (Zd2 qa qb n) n) :=
  Zcf (x := Zdb qa qb) (id := 0) ok (Zkv qa qb h0 h1) (sums := Zd0 qa qb n) (Zal (show Zak 0 (Zaj (Zac Tryz.f52) 0) = [] by kernel_rfl)) nest_look_L0_D bn0 (Zd2 qa qb n) (Znt qa qb n)
theorem ZmB {K : Zaa} (hK : ∀ args h, K 52 args h = none) (qa : T1a) (qb : T1b) (h0 : P1a K qa) (h1 : P1b K qb) (t : PX X (AK.tys [.ty 22, .ty 5]) → Option (PX X [84])) (h : ∀ a r, t a = some r → ∃ n, Zjj qa qb n a.1 a.2 = some r) : Zag U (Zab C K) 52 ⟨true, [.ty 22, .ty 5], [84], t⟩ := by
  refine Zap (x := Zdb qa qb) (ak := [.ty 22, .ty 5]) (rts := [84]) (dir := true) ok (Zkv qa qb h0 h1) hK Tryz.func52 Zqa fun a r hr => ?_
  obtain ⟨n, hn⟩ := h a r hr
  exact ⟨n, Zd0 qa qb n, (ZaV (ids := [0]) (by kernel_rfl) (by decide) (fun i hi => by
    simp only [List.mem_cons, List.not_mem_nil, or_false] at hi
    rcases hi with rfl
    · exact ZaR (c2 := Zaj (Zac Tryz.f52) 0) (by kernel_rfl) (by kernel_rfl) (ZkM qa qb h0 h1 _ _ (Nat.le_refl _))
    )), (Ztc qa qb n a).trans hn⟩
def Zhe (qb : T1b) (n : Nat) (p0 : List Val) : Option Int :=
  Option.bind (qb (p0, (0 : Int))) fun r1 =>
  cond (decide (r1.d > (16 : Int)))
  (some (20 : Int))
  (cond (decide (r1.t > (1500 : Int)))
  (some (4 : Int))
  (cond r1.b
  (some (8 : Int))
  (some (0 : Int))))
abbrev ZrA (qb : T1b) : List (Nat × TCall X) := [(52, ⟨true, [.ty 22, .ty 5], [84], qb⟩)]
noncomputable abbrev Zfl (qb : T1b) : Cx := ⟨C, U, ZrA qb, [], fun _ => []⟩
theorem Zpj : okF (C.ann 33) Tryz.f33 1 = true := by kernel_rfl
noncomputable abbrev ZgM (qb : T1b) (n : Nat) : Zek (Zfl qb) (PX X [28]) := []
theorem ZqK (qb : T1b) (n : Nat) : ∀ a, fnL (Zfl qb) true 33 Tryz.f33 [.ty 22] [28] (ZgM qb n) a = Zhe qb n a := by
  intro a
  kernel_rfl
theorem Zpx {K : Zaa} (qb : T1b) (h0 : P1b K qb) : CallsOk (Zfl qb) (Zab C K) :=
  ⟨(Zae h0 Zaw), Zav⟩
theorem ZkV {K : Zaa} (hK : ∀ args h, K 33 args h = none) (qb : T1b) (h0 : P1b K qb) (t : PX X (AK.tys [.ty 22]) → Option (PX X [28])) (h : ∀ a r, t a = some r → ∃ n, Zhe qb n a = some r) : Zag U (Zab C K) 33 ⟨true, [.ty 22], [28], t⟩ := by
  refine Zap (x := Zfl qb) (ak := [.ty 22]) (rts := [28]) (dir := true) ok (Zpx qb h0) hK Tryz.func33 Zpj fun a r hr => ?_
  obtain ⟨n, hn⟩ := h a r hr
  exact ⟨n, ZgM qb n, (Zal (show Zak 0 (Zac Tryz.f33) = [] by kernel_rfl)), (ZqK qb n a).trans hn⟩
def ZeA (qc : T1a) (qd : T1c) {R : Type} (n : Nat) (a0 : List Val) (a2 : Int) (kx0 : Int → Option R) (y3 : Int) (y4 : Int) (k : Int → Int → Option R) : Option R :=
  cond (decide (y4 < (a0.length : Int)))
  (Option.bind (ZdC a0 y4) fun x2 =>
  Option.bind (qc x2.tok.k) fun r3 =>
  Option.bind (cond (r3 != (0 : Int)) (ZdC a0 y4) (some Zv5)) fun x4 =>
  Option.bind (cond (r3 != (0 : Int)) (qd x4.l) (some (0 : Int))) fun r5 =>
  Option.bind (some (cond (r3 != (0 : Int)) (if IntKind.i64.wrap ((1 : Int) + r5) > y3 then IntKind.i64.wrap ((1 : Int) + r5) else y3) y3)) fun m6 =>
  k m6 (IntKind.i64.wrap (y4 + (1 : Int))))
  (kx0 y3)
def Zhu (qc : T1a) (qd : T1c) (n : Nat) (p0 : List Val) : Option Int :=
  Zei (ZeA qc qd n p0 (0 : Int) (fun z1 =>
  some z1)) n (0 : Int) (0 : Int)
abbrev ZqB (qc : T1a) (qd : T1c) : List (Nat × TCall X) := [(47, ⟨true, [.ty 5], [5], qc⟩), (28, ⟨true, [.ty 22], [3], qd⟩)]
noncomputable abbrev Zcb (qc : T1a) (qd : T1c) : Cx := ⟨C, U, ZqB qc qd, [], fun _ => []⟩
theorem Zpb : okF (C.ann 28) Tryz.f28 1 = true := by kernel_rfl
abbrev ref04_Deep_L0_D : LD := ⟨0, [.val 0 22, .val 2 2], [.val 3 2, .val 4 2], [(0, [.val 3 2])], []⟩
abbrev Zdk (qc : T1a) (qd : T1c) (n : Nat) : LG U (PX X [3]) ref04_Deep_L0_D := fun c kx kr y k => ZeA qc qd n c.1 c.2.1 (fun z0 => kx 0 (z0, ())) y.1 y.2.1 (fun z0 z1 => k (z0, z1, ()))
noncomputable abbrev ZdE (qc : T1a) (qd : T1c) (n : Nat) : Zek (Zcb qc qd) (PX X [3]) := [(0, Zeo U ref04_Deep_L0_D (Zdk qc qd n) n)]
theorem Zl6 (qc : T1a) (qd : T1c) (n : Nat) : ∀ c kx kr y k1, evL (Zcb qc qd) (ann 28) (ZdE qc qd n) 0 (Zaj (Zac Tryz.f28) 0) (ZdT U ref04_Deep_L0_D kx kr k1) (encS U ref04_Deep_L0_D.cap ref04_Deep_L0_D.din c y) = Zdk qc qd n c (fun i z => kx i c z) kr y (fun y2 => k1 c y2) := by
  intro c kx kr y k1
  kernel_rfl
theorem ZrM (qc : T1a) (qd : T1c) (n : Nat) : ∀ a, fnL (Zcb qc qd) true 28 Tryz.f28 [.ty 22] [3] (ZdE qc qd n) a = Zhu qc qd n a := by
  intro a
  kernel_rfl
theorem Zjp {K : Zaa} (qc : T1a) (qd : T1c) (h0 : P1c K qc) (h1 : P1d K qd) : CallsOk (Zcb qc qd) (Zab C K) :=
  ⟨(Zae h0 (Zae h1 Zaw)), Zav⟩
theorem Zkg {K : Zaa} (qc : T1a) (qd : T1c) (h0 : P1c K qc) (h1 : P1d K qd) (n : Nat) (b0 : Base) (bn0 : b0.nr ≤ 0) : Law (Zcb qc qd) b0 (Zab C K) (ann 28) n (Zaj (Zac Tryz.f28) 0) (Zeo U ref04_Deep_L0_D (Zdk qc qd n) n) :=
  Zcf (x := Zcb qc qd) (id := 0) ok (Zjp qc qd h0 h1) (sums := ZdE qc qd n) (Zal (show Zak 0 (Zaj (Zac Tryz.f28) 0) = [] by kernel_rfl)) ref04_Deep_L0_D bn0 (Zdk qc qd n) (Zl6 qc qd n)
theorem ZkY {K : Zaa} (hK : ∀ args h, K 28 args h = none) (qc : T1a) (qd : T1c) (h0 : P1c K qc) (h1 : P1d K qd) (t : PX X (AK.tys [.ty 22]) → Option (PX X [3])) (h : ∀ a r, t a = some r → ∃ n, Zhu qc qd n a = some r) : Zag U (Zab C K) 28 ⟨true, [.ty 22], [3], t⟩ := by
  refine Zap (x := Zcb qc qd) (ak := [.ty 22]) (rts := [3]) (dir := true) ok (Zjp qc qd h0 h1) hK Tryz.func28 Zpb fun a r hr => ?_
  obtain ⟨n, hn⟩ := h a r hr
  exact ⟨n, ZdE qc qd n, (ZaV (ids := [0]) (by kernel_rfl) (by decide) (fun i hi => by
    simp only [List.mem_cons, List.not_mem_nil, or_false] at hi
    rcases hi with rfl
    · exact ZaR (c2 := Zaj (Zac Tryz.f28) 0) (by kernel_rfl) (by kernel_rfl) (Zkg qc qd h0 h1 _ _ (Nat.le_refl _))
    )), (ZrM qc qd n a).trans hn⟩
def ZdD (qc : T1a) (qe : T1d) {R : Type} (n : Nat) (a0 : List Val) (a2 : List Tok) (kx0 : List Tok → Option R) (y3 : List Tok) (y4 : Int) (k : List Tok → Int → Option R) : Option R :=
  cond (decide (y4 < (a0.length : Int)))
  (Option.bind (ZdC a0 y4) fun x2 =>
  Option.bind (Option.bind (room 56 (y3.length + [x2.tok].length)) (fun _ => some (y3 ++ [x2.tok]))) fun o3 =>
  Option.bind (ZdC a0 y4) fun x4 =>
  Option.bind (qc x4.tok.k) fun r5 =>
  Option.bind (cond (r5 != (0 : Int)) (ZdC a0 y4) (some Zv5)) fun x6 =>
  Option.bind (cond (r5 != (0 : Int)) (qe x6.l) (some [])) fun r7 =>
  Option.bind (cond (r5 != (0 : Int)) (Option.bind (room 56 (o3.length + r7.length)) (fun _ => some (o3 ++ r7))) (some o3)) fun o8 =>
  Option.bind (cond (r5 != (0 : Int)) (Option.bind (room 56 (o8.length + [(Tok.mk r5 [] (0 : Int) [] false)].length)) (fun _ => some (o8 ++ [(Tok.mk r5 [] (0 : Int) [] false)]))) (some o8)) fun o9 =>
  Option.bind (some (cond (r5 != (0 : Int)) o9 o3)) fun m10 =>
  k m10 (IntKind.i64.wrap (y4 + (1 : Int))))
  (kx0 y3)
def Zfn (qc : T1a) (qe : T1d) (n : Nat) (p0 : List Val) : Option (List Tok) :=
  Zei (ZdD qc qe n p0 [] (fun z1 =>
  some z1)) n [] (0 : Int)
abbrev Znn (qc : T1a) (qe : T1d) : List (Nat × TCall X) := [(47, ⟨true, [.ty 5], [5], qc⟩), (49, ⟨true, [.ty 22], [72], qe⟩)]
noncomputable abbrev ZbH (qc : T1a) (qe : T1d) : Cx := ⟨C, U, Znn qc qe, [], fun _ => []⟩
theorem Zmu : okF (C.ann 49) Tryz.f49 1 = true := by kernel_rfl
abbrev ref04_Tokens_L0_D : LD := ⟨0, [.val 0 22, .val 2 72], [.own 3 49, .val 4 2], [(0, [.own 3 49])], []⟩
abbrev Zcu (qc : T1a) (qe : T1d) (n : Nat) : LG U (PX X [72]) ref04_Tokens_L0_D := fun c kx kr y k => ZdD qc qe n c.1 c.2.1 (fun z0 => kx 0 (z0, ())) y.1 y.2.1 (fun z0 z1 => k (z0, z1, ()))
noncomputable abbrev Zct (qc : T1a) (qe : T1d) (n : Nat) : Zek (ZbH qc qe) (PX X [72]) := [(0, Zeo U ref04_Tokens_L0_D (Zcu qc qe n) n)]
theorem ZjQ (qc : T1a) (qe : T1d) (n : Nat) : ∀ c kx kr y k1, evL (ZbH qc qe) (ann 49) (Zct qc qe n) 0 (Zaj (Zac Tryz.f49) 0) (ZdT U ref04_Tokens_L0_D kx kr k1) (encS U ref04_Tokens_L0_D.cap ref04_Tokens_L0_D.din c y) = Zcu qc qe n c (fun i z => kx i c z) kr y (fun y2 => k1 c y2) := by
  intro c kx kr y k1
  kernel_rfl
theorem Zm6 (qc : T1a) (qe : T1d) (n : Nat) : ∀ a, fnL (ZbH qc qe) true 49 Tryz.f49 [.ty 22] [72] (Zct qc qe n) a = Zfn qc qe n a := by
  intro a
  kernel_rfl
theorem Zg2 {K : Zaa} (qc : T1a) (qe : T1d) (h0 : P1c K qc) (h1 : P1e K qe) : CallsOk (ZbH qc qe) (Zab C K) :=
  ⟨(Zae h0 (Zae h1 Zaw)), Zav⟩
theorem Zie {K : Zaa} (qc : T1a) (qe : T1d) (h0 : P1c K qc) (h1 : P1e K qe) (n : Nat) (b0 : Base) (bn0 : b0.nr ≤ 0) : Law (ZbH qc qe) b0 (Zab C K) (ann 49) n (Zaj (Zac Tryz.f49) 0) (Zeo U ref04_Tokens_L0_D (Zcu qc qe n) n) :=
  Zcf (x := ZbH qc qe) (id := 0) ok (Zg2 qc qe h0 h1) (sums := Zct qc qe n) (Zal (show Zak 0 (Zaj (Zac Tryz.f49) 0) = [] by kernel_rfl)) ref04_Tokens_L0_D bn0 (Zcu qc qe n) (ZjQ qc qe n)
theorem ZiK {K : Zaa} (hK : ∀ args h, K 49 args h = none) (qc : T1a) (qe : T1d) (h0 : P1c K qc) (h1 : P1e K qe) (t : PX X (AK.tys [.ty 22]) → Option (PX X [72])) (h : ∀ a r, t a = some r → ∃ n, Zfn qc qe n a = some r) : Zag U (Zab C K) 49 ⟨true, [.ty 22], [72], t⟩ := by
  refine Zap (x := ZbH qc qe) (ak := [.ty 22]) (rts := [72]) (dir := true) ok (Zg2 qc qe h0 h1) hK Tryz.func49 Zmu fun a r hr => ?_
  obtain ⟨n, hn⟩ := h a r hr
  exact ⟨n, Zct qc qe n, (ZaV (ids := [0]) (by kernel_rfl) (by decide) (fun i hi => by
    simp only [List.mem_cons, List.not_mem_nil, or_false] at hi
    rcases hi with rfl
    · exact ZaR (c2 := Zaj (Zac Tryz.f49) 0) (by kernel_rfl) (by kernel_rfl) (Zie qc qe h0 h1 _ _ (Nat.le_refl _))
    )), (Zm6 qc qe n a).trans hn⟩
def Zdz (qc : T1a) (qf : T1e) {R : Type} (n : Nat) (a0 : List Val) (a1 : Int) (kx0 : Bool → Option R) (kr : Bool → Option R) (y4 : Bool) (y5 : Int) (k : Bool → Int → Option R) : Option R :=
  cond (decide (y5 < (a0.length : Int)))
  (Option.bind (ZdC a0 y5) fun x3 =>
  Option.bind (qc x3.tok.k) fun r4 =>
  Option.bind (cond (r4 == (0 : Int)) (ZdC a0 y5) (some Zv5)) fun x5 =>
  Option.bind (some (cond (r4 == (0 : Int)) (decide ((x5.l.length : Int) > (0 : Int))) false)) fun m6 =>
  Option.bind (cond ((!m6) && (a1 != (0 : Int))) (ZdC a0 y5) (some Zv5)) fun x7 =>
  Option.bind (cond (!m6) (some (cond (a1 != (0 : Int)) (x7.tok.k == a1) false)) (some (x7.tok.k == a1))) fun m8 =>
  Option.bind (some (cond m6 true m8)) fun m9 =>
  Option.bind (cond ((!m9) && (r4 != (0 : Int))) (ZdC a0 y5) (some Zv5)) fun x10 =>
  Option.bind (cond ((!m9) && (r4 != (0 : Int))) (qf (x10.l, r4)) (some false)) fun r11 =>
  Option.bind (cond (!m9) (some (cond (r4 != (0 : Int)) (!r11) false)) (some (!r11))) fun m12 =>
  Option.bind (some (cond m9 true m12)) fun m13 =>
  cond m13
  (kr false)
  (k y4 (IntKind.i64.wrap (y5 + (1 : Int)))))
  (kx0 y4)
def Ze5 (qc : T1a) (qf : T1e) (n : Nat) (p0 : List Val) (p1 : Int) : Option Bool :=
  Zei (Zdz qc qf n p0 p1 (fun z1 =>
  some true) (fun z2 =>
  some z2)) n false (0 : Int)
abbrev Znf (qc : T1a) (qf : T1e) : List (Nat × TCall X) := [(47, ⟨true, [.ty 5], [5], qc⟩), (50, ⟨true, [.ty 22, .ty 5], [4], qf⟩)]
noncomputable abbrev ZbE (qc : T1a) (qf : T1e) : Cx := ⟨C, U, Znf qc qf, [], fun _ => []⟩
theorem Zl5 : okF (C.ann 50) Tryz.f50 2 = true := by kernel_rfl
abbrev ref04_shaped_L0_D : LD := ⟨0, [.val 0 22, .val 1 5], [.val 4 4, .val 5 2], [(0, [.val 4 4])], [.val 4 4]⟩
abbrev Zcy (qc : T1a) (qf : T1e) (n : Nat) : LG U (PX X [4]) ref04_shaped_L0_D := fun c kx kr y k => Zdz qc qf n c.1 c.2.1 (fun z0 => kx 0 (z0, ())) (fun z0 => kr (z0, ())) y.1 y.2.1 (fun z0 z1 => k (z0, z1, ()))
noncomputable abbrev Zcn (qc : T1a) (qf : T1e) (n : Nat) : Zek (ZbE qc qf) (PX X [4]) := [(0, Zeo U ref04_shaped_L0_D (Zcy qc qf n) n)]
theorem Zj4 (qc : T1a) (qf : T1e) (n : Nat) : ∀ c kx kr y k1, evL (ZbE qc qf) (ann 50) (Zcn qc qf n) 0 (Zaj (Zac Tryz.f50) 0) (ZdT U ref04_shaped_L0_D kx kr k1) (encS U ref04_shaped_L0_D.cap ref04_shaped_L0_D.din c y) = Zcy qc qf n c (fun i z => kx i c z) kr y (fun y2 => k1 c y2) := by
  intro c kx kr y k1
  kernel_rfl
theorem Znd (qc : T1a) (qf : T1e) (n : Nat) : ∀ a, fnL (ZbE qc qf) true 50 Tryz.f50 [.ty 22, .ty 5] [4] (Zcn qc qf n) a = Ze5 qc qf n a.1 a.2 := by
  intro a
  kernel_rfl
theorem ZgD {K : Zaa} (qc : T1a) (qf : T1e) (h0 : P1c K qc) (h1 : P1f K qf) : CallsOk (ZbE qc qf) (Zab C K) :=
  ⟨(Zae h0 (Zae h1 Zaw)), Zav⟩
theorem Zij {K : Zaa} (qc : T1a) (qf : T1e) (h0 : P1c K qc) (h1 : P1f K qf) (n : Nat) (b0 : Base) (bn0 : b0.nr ≤ 0) : Law (ZbE qc qf) b0 (Zab C K) (ann 50) n (Zaj (Zac Tryz.f50) 0) (Zeo U ref04_shaped_L0_D (Zcy qc qf n) n) :=
  Zcf (x := ZbE qc qf) (id := 0) ok (ZgD qc qf h0 h1) (sums := Zcn qc qf n) (Zal (show Zak 0 (Zaj (Zac Tryz.f50) 0) = [] by kernel_rfl)) ref04_shaped_L0_D bn0 (Zcy qc qf n) (Zj4 qc qf n)
theorem Zjg {K : Zaa} (hK : ∀ args h, K 50 args h = none) (qc : T1a) (qf : T1e) (h0 : P1c K qc) (h1 : P1f K qf) (t : PX X (AK.tys [.ty 22, .ty 5]) → Option (PX X [4])) (h : ∀ a r, t a = some r → ∃ n, Ze5 qc qf n a.1 a.2 = some r) : Zag U (Zab C K) 50 ⟨true, [.ty 22, .ty 5], [4], t⟩ := by
  refine Zap (x := ZbE qc qf) (ak := [.ty 22, .ty 5]) (rts := [4]) (dir := true) ok (ZgD qc qf h0 h1) hK Tryz.func50 Zl5 fun a r hr => ?_
  obtain ⟨n, hn⟩ := h a r hr
  exact ⟨n, Zcn qc qf n, (ZaV (ids := [0]) (by kernel_rfl) (by decide) (fun i hi => by
    simp only [List.mem_cons, List.not_mem_nil, or_false] at hi
    rcases hi with rfl
    · exact ZaR (c2 := Zaj (Zac Tryz.f50) 0) (by kernel_rfl) (by kernel_rfl) (Zij qc qf h0 h1 _ _ (Nat.le_refl _))
    )), (Znd qc qf n a).trans hn⟩
def ZfU (qd : T1c) (qe : T1d) (qf : T1e) (n : Nat) (p0 : List Val) : Option Int :=
  Option.bind (qd p0) fun r1 =>
  cond (decide (r1 > (16 : Int)))
  (some (20 : Int))
  (Option.bind (qe p0) fun r2 =>
  cond (decide ((r2.length : Int) > (1500 : Int)))
  (some (4 : Int))
  (Option.bind (qf (p0, (0 : Int))) fun r3 =>
  cond (!r3)
  (some (8 : Int))
  (some (0 : Int))))
abbrev Zp6 (qd : T1c) (qe : T1d) (qf : T1e) : List (Nat × TCall X) := [(28, ⟨true, [.ty 22], [3], qd⟩), (49, ⟨true, [.ty 22], [72], qe⟩), (50, ⟨true, [.ty 22, .ty 5], [4], qf⟩)]
noncomputable abbrev ZeE (qd : T1c) (qe : T1d) (qf : T1e) : Cx := ⟨C, U, Zp6 qd qe qf, [], fun _ => []⟩
theorem Zny : okF (C.ann 30) Tryz.f30 1 = true := by kernel_rfl
noncomputable abbrev Zgq (qd : T1c) (qe : T1d) (qf : T1e) (n : Nat) : Zek (ZeE qd qe qf) (PX X [3]) := []
theorem ZoS (qd : T1c) (qe : T1d) (qf : T1e) (n : Nat) : ∀ a, fnL (ZeE qd qe qf) true 30 Tryz.f30 [.ty 22] [3] (Zgq qd qe qf n) a = ZfU qd qe qf n a := by
  intro a
  kernel_rfl
theorem Zm3 {K : Zaa} (qd : T1c) (qe : T1d) (qf : T1e) (h0 : P1d K qd) (h1 : P1e K qe) (h2 : P1f K qf) : CallsOk (ZeE qd qe qf) (Zab C K) :=
  ⟨(Zae h0 (Zae h1 (Zae h2 Zaw))), Zav⟩
theorem Zkf {K : Zaa} (hK : ∀ args h, K 30 args h = none) (qd : T1c) (qe : T1d) (qf : T1e) (h0 : P1d K qd) (h1 : P1e K qe) (h2 : P1f K qf) (t : PX X (AK.tys [.ty 22]) → Option (PX X [3])) (h : ∀ a r, t a = some r → ∃ n, ZfU qd qe qf n a = some r) : Zag U (Zab C K) 30 ⟨true, [.ty 22], [3], t⟩ := by
  refine Zap (x := ZeE qd qe qf) (ak := [.ty 22]) (rts := [3]) (dir := true) ok (Zm3 qd qe qf h0 h1 h2) hK Tryz.func30 Zny fun a r hr => ?_
  obtain ⟨n, hn⟩ := h a r hr
  exact ⟨n, Zgq qd qe qf n, (Zal (show Zak 0 (Zac Tryz.f30) = [] by kernel_rfl)), (ZoS qd qe qf n a).trans hn⟩
def Zf9 (qg : T1f) (qd : T1c) (n : Nat) (p0 : List Val) : Option Bool :=
  Option.bind (qg (p0, (300 : Int))) fun r1 =>
  Option.bind (cond (!(decide (r1 > (300 : Int)))) (qd p0) (some (0 : Int))) fun r2 =>
  Option.bind (some (cond (decide (r1 > (300 : Int))) true (decide (r2 > (40 : Int))))) fun m3 =>
  some m3
abbrev ZpL (qg : T1f) (qd : T1c) : List (Nat × TCall X) := [(27, ⟨true, [.ty 22, .ty 3], [3], qg⟩), (28, ⟨true, [.ty 22], [3], qd⟩)]
noncomputable abbrev Zew (qg : T1f) (qd : T1c) : Cx := ⟨C, U, ZpL qg qd, [], fun _ => []⟩
theorem ZnI : okF (C.ann 9) Tryz.f9 1 = true := by kernel_rfl
noncomputable abbrev Zgs (qg : T1f) (qd : T1c) (n : Nat) : Zek (Zew qg qd) (PX X [4]) := []
theorem ZoH (qg : T1f) (qd : T1c) (n : Nat) : ∀ a, fnL (Zew qg qd) true 9 Tryz.f9 [.ty 22] [4] (Zgs qg qd n) a = Zf9 qg qd n a := by
  intro a
  kernel_rfl
theorem Znp {K : Zaa} (qg : T1f) (qd : T1c) (h0 : P1g K qg) (h1 : P1d K qd) : CallsOk (Zew qg qd) (Zab C K) :=
  ⟨(Zae h0 (Zae h1 Zaw)), Zav⟩
theorem ZjA {K : Zaa} (hK : ∀ args h, K 9 args h = none) (qg : T1f) (qd : T1c) (h0 : P1g K qg) (h1 : P1d K qd) (t : PX X (AK.tys [.ty 22]) → Option (PX X [4])) (h : ∀ a r, t a = some r → ∃ n, Zf9 qg qd n a = some r) : Zag U (Zab C K) 9 ⟨true, [.ty 22], [4], t⟩ := by
  refine Zap (x := Zew qg qd) (ak := [.ty 22]) (rts := [4]) (dir := true) ok (Znp qg qd h0 h1) hK Tryz.func9 ZnI fun a r hr => ?_
  obtain ⟨n, hn⟩ := h a r hr
  exact ⟨n, Zgs qg qd n, (Zal (show Zak 0 (Zac Tryz.f9) = [] by kernel_rfl)), (ZoH qg qd n a).trans hn⟩
def Zcq (qg : T1f) {R : Type} (n : Nat) (a0 : List Val) (a1 : Int) (a4 : Int) (kx0 : Int → Option R) (y5 : Int) (y6 : Int) (k : Int → Int → Option R) : Option R :=
  Option.bind (some (cond (decide (y6 < (a0.length : Int))) (decide (y5 ≤ a1)) false)) fun m2 =>
  cond m2
  (Option.bind (ZdC a0 y6) fun x3 =>
  Option.bind (ZdC a0 y6) fun x4 =>
  Option.bind (ZdC a0 y6) fun x5 =>
  Option.bind (qg (x5.l, IntKind.i64.wrap (a1 - y5))) fun r6 =>
  k (IntKind.i64.wrap (y5 + (IntKind.i64.wrap ((IntKind.i64.wrap ((IntKind.i64.wrap ((1 : Int) + (x3.tok.t.length : Int))) + (x4.tok.u.length : Int))) + r6)))) (IntKind.i64.wrap (y6 + (1 : Int))))
  (kx0 y5)
def Zhb (qg : T1f) (n : Nat) (p0 : List Val) (p1 : Int) : Option Int :=
  Zei (Zcq qg n p0 p1 (0 : Int) (fun z1 =>
  some z1)) n (0 : Int) (0 : Int)
abbrev Zqt (qg : T1f) : List (Nat × TCall X) := [(27, ⟨true, [.ty 22, .ty 3], [3], qg⟩)]
noncomputable abbrev Zcd (qg : T1f) : Cx := ⟨C, U, Zqt qg, [], fun _ => []⟩
theorem Zo9 : okF (C.ann 27) Tryz.f27 2 = true := by kernel_rfl
abbrev ref04_Size_L0_D : LD := ⟨0, [.val 0 22, .val 1 2, .val 4 2], [.val 5 2, .val 6 2], [(0, [.val 5 2])], []⟩
abbrev Zdm (qg : T1f) (n : Nat) : LG U (PX X [3]) ref04_Size_L0_D := fun c kx kr y k => Zcq qg n c.1 c.2.1 c.2.2.1 (fun z0 => kx 0 (z0, ())) y.1 y.2.1 (fun z0 z1 => k (z0, z1, ()))
noncomputable abbrev ZdA (qg : T1f) (n : Nat) : Zek (Zcd qg) (PX X [3]) := [(0, Zeo U ref04_Size_L0_D (Zdm qg n) n)]
theorem Zl9 (qg : T1f) (n : Nat) : ∀ c kx kr y k1, evL (Zcd qg) (ann 27) (ZdA qg n) 0 (Zaj (Zac Tryz.f27) 0) (ZdT U ref04_Size_L0_D kx kr k1) (encS U ref04_Size_L0_D.cap ref04_Size_L0_D.din c y) = Zdm qg n c (fun i z => kx i c z) kr y (fun y2 => k1 c y2) := by
  intro c kx kr y k1
  kernel_rfl
theorem ZrP (qg : T1f) (n : Nat) : ∀ a, fnL (Zcd qg) true 27 Tryz.f27 [.ty 22, .ty 3] [3] (ZdA qg n) a = Zhb qg n a.1 a.2 := by
  intro a
  kernel_rfl
theorem Zi8 {K : Zaa} (qg : T1f) (h0 : P1g K qg) : CallsOk (Zcd qg) (Zab C K) :=
  ⟨(Zae h0 Zaw), Zav⟩
theorem ZjV {K : Zaa} (qg : T1f) (h0 : P1g K qg) (n : Nat) (b0 : Base) (bn0 : b0.nr ≤ 0) : Law (Zcd qg) b0 (Zab C K) (ann 27) n (Zaj (Zac Tryz.f27) 0) (Zeo U ref04_Size_L0_D (Zdm qg n) n) :=
  Zcf (x := Zcd qg) (id := 0) ok (Zi8 qg h0) (sums := ZdA qg n) (Zal (show Zak 0 (Zaj (Zac Tryz.f27) 0) = [] by kernel_rfl)) ref04_Size_L0_D bn0 (Zdm qg n) (Zl9 qg n)
theorem Zk6 {K : Zaa} (hK : ∀ args h, K 27 args h = none) (qg : T1f) (h0 : P1g K qg) (t : PX X (AK.tys [.ty 22, .ty 3]) → Option (PX X [3])) (h : ∀ a r, t a = some r → ∃ n, Zhb qg n a.1 a.2 = some r) : Zag U (Zab C K) 27 ⟨true, [.ty 22, .ty 3], [3], t⟩ := by
  refine Zap (x := Zcd qg) (ak := [.ty 22, .ty 3]) (rts := [3]) (dir := true) ok (Zi8 qg h0) hK Tryz.func27 Zo9 fun a r hr => ?_
  obtain ⟨n, hn⟩ := h a r hr
  exact ⟨n, ZdA qg n, (ZaV (ids := [0]) (by kernel_rfl) (by decide) (fun i hi => by
    simp only [List.mem_cons, List.not_mem_nil, or_false] at hi
    rcases hi with rfl
    · exact ZaR (c2 := Zaj (Zac Tryz.f27) 0) (by kernel_rfl) (by kernel_rfl) (ZjV qg h0 _ _ (Nat.le_refl _))
    )), (ZrP qg n a).trans hn⟩
def Zes (qh : T1g) {R : Type} (n : Nat) (a0 : List Val) (a1 : List Val) (kx0 : Bool → Option R) (kr : Bool → Option R) (y4 : Bool) (y5 : Int) (k : Bool → Int → Option R) : Option R :=
  cond (decide (y5 < (a0.length : Int)))
  (Option.bind (ZdC a0 y5) fun x3 =>
  Option.bind (ZdC a1 y5) fun x4 =>
  Option.bind (cond (!(!(Tok.eqb x3.tok x4.tok))) (ZdC a0 y5) (some Zv5)) fun x5 =>
  Option.bind (cond (!(!(Tok.eqb x3.tok x4.tok))) (ZdC a1 y5) (some Zv5)) fun x6 =>
  Option.bind (cond (!(!(Tok.eqb x3.tok x4.tok))) (qh (x5.l, x6.l)) (some false)) fun r7 =>
  Option.bind (some (cond (!(Tok.eqb x3.tok x4.tok)) true (!r7))) fun m8 =>
  cond m8
  (kr false)
  (k y4 (IntKind.i64.wrap (y5 + (1 : Int)))))
  (kx0 y4)
def Zg5 (qh : T1g) (n : Nat) (p0 : List Val) (p1 : List Val) : Option Bool :=
  cond ((p0.length : Int) != (p1.length : Int))
  (some false)
  (Zei (Zes qh n p0 p1 (fun z1 =>
  some true) (fun z2 =>
  some z2)) n false (0 : Int))
abbrev Zqe (qh : T1g) : List (Nat × TCall X) := [(15, ⟨true, [.ty 22, .ty 22], [4], qh⟩)]
noncomputable abbrev Zca (qh : T1g) : Cx := ⟨C, U, Zqe qh, [], fun _ => []⟩
theorem Zpn : okF (C.ann 15) Tryz.f15 2 = true := by kernel_rfl
abbrev ref04_Same_L0_D : LD := ⟨0, [.val 0 22, .val 1 22], [.val 4 4, .val 5 2], [(0, [.val 4 4])], [.val 4 4]⟩
abbrev Zds (qh : T1g) (n : Nat) : LG U (PX X [4]) ref04_Same_L0_D := fun c kx kr y k => Zes qh n c.1 c.2.1 (fun z0 => kx 0 (z0, ())) (fun z0 => kr (z0, ())) y.1 y.2.1 (fun z0 z1 => k (z0, z1, ()))
noncomputable abbrev Zdq (qh : T1g) (n : Nat) : Zek (Zca qh) (PX X [4]) := [(0, Zeo U ref04_Same_L0_D (Zds qh n) n)]
theorem Zmt (qh : T1g) (n : Nat) : ∀ c kx kr y k1, evL (Zca qh) (ann 15) (Zdq qh n) 0 (Zaj (Zac Tryz.f15) 0) (ZdT U ref04_Same_L0_D kx kr k1) (encS U ref04_Same_L0_D.cap ref04_Same_L0_D.din c y) = Zds qh n c (fun i z => kx i c z) kr y (fun y2 => k1 c y2) := by
  intro c kx kr y k1
  kernel_rfl
theorem Zr1 (qh : T1g) (n : Nat) : ∀ a, fnL (Zca qh) true 15 Tryz.f15 [.ty 22, .ty 22] [4] (Zdq qh n) a = Zg5 qh n a.1 a.2 := by
  intro a
  kernel_rfl
theorem Zi9 {K : Zaa} (qh : T1g) (h0 : P1h K qh) : CallsOk (Zca qh) (Zab C K) :=
  ⟨(Zae h0 Zaw), Zav⟩
theorem Zj5 {K : Zaa} (qh : T1g) (h0 : P1h K qh) (n : Nat) (b0 : Base) (bn0 : b0.nr ≤ 0) : Law (Zca qh) b0 (Zab C K) (ann 15) n (Zaj (Zac Tryz.f15) 0) (Zeo U ref04_Same_L0_D (Zds qh n) n) :=
  Zcf (x := Zca qh) (id := 0) ok (Zi9 qh h0) (sums := Zdq qh n) (Zal (show Zak 0 (Zaj (Zac Tryz.f15) 0) = [] by kernel_rfl)) ref04_Same_L0_D bn0 (Zds qh n) (Zmt qh n)
theorem Zk1 {K : Zaa} (hK : ∀ args h, K 15 args h = none) (qh : T1g) (h0 : P1h K qh) (t : PX X (AK.tys [.ty 22, .ty 22]) → Option (PX X [4])) (h : ∀ a r, t a = some r → ∃ n, Zg5 qh n a.1 a.2 = some r) : Zag U (Zab C K) 15 ⟨true, [.ty 22, .ty 22], [4], t⟩ := by
  refine Zap (x := Zca qh) (ak := [.ty 22, .ty 22]) (rts := [4]) (dir := true) ok (Zi9 qh h0) hK Tryz.func15 Zpn fun a r hr => ?_
  obtain ⟨n, hn⟩ := h a r hr
  exact ⟨n, Zdq qh n, (ZaV (ids := [0]) (by kernel_rfl) (by decide) (fun i hi => by
    simp only [List.mem_cons, List.not_mem_nil, or_false] at hi
    rcases hi with rfl
    · exact ZaR (c2 := Zaj (Zac Tryz.f15) 0) (by kernel_rfl) (by kernel_rfl) (Zj5 qh h0 _ _ (Nat.le_refl _))
    )), (Zr1 qh n a).trans hn⟩
def Zfw (qi : T1h) (n : Nat) (p0 : List UInt8) (p1 : List UInt8) : Option Bool :=
  Option.bind (qi (p0, p1)) fun r1 =>
  some r1
abbrev Zh3 (qi : T1h) : List (Nat × TCall X) := [(89, ⟨true, [.ty 9, .ty 9], [4], qi⟩)]
noncomputable abbrev ZbX (qi : T1h) : Cx := ⟨C, U, Zh3 qi, [], fun _ => []⟩
theorem ZhB : okF (C.ann 72) Tryz.f72 2 = true := by kernel_rfl
noncomputable abbrev ZdO (qi : T1h) (n : Nat) : Zek (ZbX qi) (PX X [4]) := []
theorem Zia (qi : T1h) (n : Nat) : ∀ a, fnL (ZbX qi) true 72 Tryz.f72 [.ty 9, .ty 9] [4] (ZdO qi n) a = Zfw qi n a.1 a.2 := by
  intro a
  kernel_rfl
theorem ZhD {K : Zaa} (qi : T1h) (h0 : P1i K qi) : CallsOk (ZbX qi) (Zab C K) :=
  ⟨(Zae h0 Zaw), Zav⟩
theorem ZfV {K : Zaa} (hK : ∀ args h, K 72 args h = none) (qi : T1h) (h0 : P1i K qi) (t : PX X (AK.tys [.ty 9, .ty 9]) → Option (PX X [4])) (h : ∀ a r, t a = some r → ∃ n, Zfw qi n a.1 a.2 = some r) : Zag U (Zab C K) 72 ⟨true, [.ty 9, .ty 9], [4], t⟩ := by
  refine Zap (x := ZbX qi) (ak := [.ty 9, .ty 9]) (rts := [4]) (dir := true) ok (ZhD qi h0) hK Tryz.func72 ZhB fun a r hr => ?_
  obtain ⟨n, hn⟩ := h a r hr
  exact ⟨n, ZdO qi n, (Zal (show Zak 0 (Zac Tryz.f72) = [] by kernel_rfl)), (Zia qi n a).trans hn⟩
def ZaJ (n : Nat) (p0 : List UInt8) (p1 : List UInt8) : Option Bool :=
  Option.bind (cond (decide ((p0.length : Int) ≥ (p1.length : Int))) (Zsi p0 (0 : Int) (p1.length : Int)) (some [])) fun s1 =>
  Option.bind (some (cond (decide ((p0.length : Int) ≥ (p1.length : Int))) (s1 == p1) false)) fun m2 =>
  some m2
abbrev ZdL : List (Nat × TCall X) := []
noncomputable abbrev ZaG : Cx := ⟨C, U, ZdL , [], fun _ => []⟩
theorem Zdt : okF (C.ann 89) Tryz.f89 2 = true := by kernel_rfl
noncomputable abbrev Zbp (n : Nat) : Zek (ZaG ) (PX X [4]) := []
theorem ZdK (n : Nat) : ∀ a, fnL (ZaG ) true 89 Tryz.f89 [.ty 9, .ty 9] [4] (Zbp n) a = ZaJ n a.1 a.2 := by
  intro a
  kernel_rfl
theorem Zdn {K : Zaa} : CallsOk (ZaG ) (Zab C K) :=
  ⟨Zaw, Zav⟩
theorem ZcJ {K : Zaa} (hK : ∀ args h, K 89 args h = none) (t : PX X (AK.tys [.ty 9, .ty 9]) → Option (PX X [4])) (h : ∀ a r, t a = some r → ∃ n, ZaJ n a.1 a.2 = some r) : Zag U (Zab C K) 89 ⟨true, [.ty 9, .ty 9], [4], t⟩ := by
  refine Zap (x := ZaG ) (ak := [.ty 9, .ty 9]) (rts := [4]) (dir := true) ok (Zdn ) hK Tryz.func89 Zdt fun a r hr => ?_
  obtain ⟨n, hn⟩ := h a r hr
  exact ⟨n, Zbp n, (Zal (show Zak 0 (Zac Tryz.f89) = [] by kernel_rfl)), (ZdK n a).trans hn⟩
def Ze8 (qj : T1h) (n : Nat) (p0 : List UInt8) : Option Bool :=
  Option.bind (qj (p0, [45, 45])) fun r1 =>
  Option.bind (some (cond r1 (decide ((p0.length : Int) > (2 : Int))) false)) fun m2 =>
  Option.bind (some (cond m2 (decide ((p0.length : Int) ≤ (64 : Int))) false)) fun m3 =>
  some m3
abbrev ZmV (qj : T1h) : List (Nat × TCall X) := [(72, ⟨true, [.ty 9, .ty 9], [4], qj⟩)]
noncomputable abbrev Zd6 (qj : T1h) : Cx := ⟨C, U, ZmV qj, [], fun _ => []⟩
theorem Zmr : okF (C.ann 61) Tryz.f61 1 = true := by kernel_rfl
noncomputable abbrev ZfK (qj : T1h) (n : Nat) : Zek (Zd6 qj) (PX X [4]) := []
theorem ZmZ (qj : T1h) (n : Nat) : ∀ a, fnL (Zd6 qj) true 61 Tryz.f61 [.ty 9] [4] (ZfK qj n) a = Ze8 qj n a := by
  intro a
  kernel_rfl
theorem ZlR {K : Zaa} (qj : T1h) (h0 : P1j K qj) : CallsOk (Zd6 qj) (Zab C K) :=
  ⟨(Zae h0 Zaw), Zav⟩
theorem ZiS {K : Zaa} (hK : ∀ args h, K 61 args h = none) (qj : T1h) (h0 : P1j K qj) (t : PX X (AK.tys [.ty 9]) → Option (PX X [4])) (h : ∀ a r, t a = some r → ∃ n, Ze8 qj n a = some r) : Zag U (Zab C K) 61 ⟨true, [.ty 9], [4], t⟩ := by
  refine Zap (x := Zd6 qj) (ak := [.ty 9]) (rts := [4]) (dir := true) ok (ZlR qj h0) hK Tryz.func61 Zmr fun a r hr => ?_
  obtain ⟨n, hn⟩ := h a r hr
  exact ⟨n, ZfK qj n, (Zal (show Zak 0 (Zac Tryz.f61) = [] by kernel_rfl)), (ZmZ qj n a).trans hn⟩
def Ze4 (n : Nat) (p0 : List UInt8) : Option Bool :=
  Option.bind (some (cond (decide ((p0.length : Int) > (2 : Int))) (decide ((p0.length : Int) ≤ (64 : Int))) false)) fun m1 =>
  Option.bind (cond m1 (Zsi p0 (0 : Int) (2 : Int)) (some [])) fun s2 =>
  Option.bind (some (cond m1 (s2 == [45, 45]) false)) fun m3 =>
  some m3
abbrev Zns : List (Nat × TCall X) := []
noncomputable abbrev Zd5 : Cx := ⟨C, U, Zns , [], fun _ => []⟩
theorem ZmE : okF (C.ann 48) Tryz.f48 1 = true := by kernel_rfl
noncomputable abbrev Zfz (n : Nat) : Zek (Zd5 ) (PX X [4]) := []
theorem Zna (n : Nat) : ∀ a, fnL (Zd5 ) true 48 Tryz.f48 [.ty 9] [4] (Zfz n) a = Ze4 n a := by
  intro a
  kernel_rfl
theorem Zl2 {K : Zaa} : CallsOk (Zd5 ) (Zab C K) :=
  ⟨Zaw, Zav⟩
theorem Zje {K : Zaa} (hK : ∀ args h, K 48 args h = none) (t : PX X (AK.tys [.ty 9]) → Option (PX X [4])) (h : ∀ a r, t a = some r → ∃ n, Ze4 n a = some r) : Zag U (Zab C K) 48 ⟨true, [.ty 9], [4], t⟩ := by
  refine Zap (x := Zd5 ) (ak := [.ty 9]) (rts := [4]) (dir := true) ok (Zl2 ) hK Tryz.func48 ZmE fun a r hr => ?_
  obtain ⟨n, hn⟩ := h a r hr
  exact ⟨n, Zfz n, (Zal (show Zak 0 (Zac Tryz.f48) = [] by kernel_rfl)), (Zna n a).trans hn⟩
def Zec {R : Type} (n : Nat) (a2 : List UInt8) (a3 : Nat) (a8 : Nat) (a9 : Int) (kx0 : List Int → Option R) (y10 : Int) (h1 : List Int) (k : Int → List Int → Option R) : Option R :=
  cond (decide (y10 < a9))
  (Option.bind (if 0 ≤ y10 ∧ y10 < a8 ∧ y10 < h1.length then some y10.toNat else none) fun i3 =>
  Option.bind (h1[i3]?) fun e4 =>
  Option.bind (some (cond (decide (e4 ≥ (65 : Int))) (decide (e4 ≤ (90 : Int))) false)) fun m5 =>
  Option.bind (cond m5 (if 0 ≤ y10 ∧ y10 < a3 ∧ y10 < h1.length then some y10.toNat else none) (some 0)) fun i6 =>
  Option.bind (cond m5 (if i6 < h1.length then some (h1.set i6 (IntKind.u8.wrap ((IntKind.u8.wrap (e4 + (97 : Int))) - (65 : Int)))) else none) (some h1)) fun a7 =>
  Option.bind (some (cond m5 a7 h1)) fun m8 =>
  k (IntKind.i64.wrap (y10 + (1 : Int))) m8)
  (kx0 h1)
def Zge (n : Nat) (p0 : List UInt8) : Option (List UInt8) :=
  Zei (Zec n [] p0.length p0.length (p0.length : Int) (fun z1 =>
  Option.bind (if p0.length ≤ z1.length then some (ZjD (z1.take p0.length)) else none) fun s2 =>
  some s2)) n (0 : Int) (ZeN p0)
abbrev ZpO : List (Nat × TCall X) := []
noncomputable abbrev ZbS : Cx := ⟨C, U, ZpO , [], fun _ => []⟩
theorem Znu : okF (C.ann 41) Tryz.f41 1 = true := by kernel_rfl
abbrev short_small_L0_D : LD := ⟨0, [.val 2 9, .osl 3 0 5, .osl 8 0 5, .val 9 2], [.val 10 2, .harr false 5], [(0, [.harr false 5])], []⟩
abbrev ZcV (n : Nat) : LG U (PX X [9]) short_small_L0_D := fun c kx kr y k => Zec n c.1 c.2.1 c.2.2.1 c.2.2.2.1 (fun z0 => kx 0 (z0, ())) y.1 y.2.1 (fun z0 z1 => k (z0, z1, ()))
noncomputable abbrev ZcO (n : Nat) : Zek (ZbS ) (PX X [9]) := [(0, Zeo U short_small_L0_D (ZcV n) n)]
theorem ZkR (n : Nat) : ∀ c kx kr y k1, evL (ZbS ) (ann 41) (ZcO n) 0 (Zaj (Zac Tryz.f41) 0) (ZdT U short_small_L0_D kx kr k1) (encS U short_small_L0_D.cap short_small_L0_D.din c y) = ZcV n c (fun i z => kx i c z) kr y (fun y2 => k1 c y2) := by
  intro c kx kr y k1
  kernel_rfl
theorem Zpv (n : Nat) : ∀ a, fnL (ZbS ) true 41 Tryz.f41 [.ty 9] [9] (ZcO n) a = Zge n a := by
  intro a
  kernel_rfl
theorem ZhK {K : Zaa} : CallsOk (ZbS ) (Zab C K) :=
  ⟨Zaw, Zav⟩
theorem ZiR {K : Zaa} (n : Nat) (b0 : Base) (bn0 : b0.nr ≤ 0) : Law (ZbS ) b0 (Zab C K) (ann 41) n (Zaj (Zac Tryz.f41) 0) (Zeo U short_small_L0_D (ZcV n) n) :=
  Zcf (x := ZbS ) (id := 0) ok (ZhK ) (sums := ZcO n) (Zal (show Zak 0 (Zaj (Zac Tryz.f41) 0) = [] by kernel_rfl)) short_small_L0_D bn0 (ZcV n) (ZkR n)
theorem ZjY {K : Zaa} (hK : ∀ args h, K 41 args h = none) (t : PX X (AK.tys [.ty 9]) → Option (PX X [9])) (h : ∀ a r, t a = some r → ∃ n, Zge n a = some r) : Zag U (Zab C K) 41 ⟨true, [.ty 9], [9], t⟩ := by
  refine Zap (x := ZbS ) (ak := [.ty 9]) (rts := [9]) (dir := true) ok (ZhK ) hK Tryz.func41 Znu fun a r hr => ?_
  obtain ⟨n, hn⟩ := h a r hr
  exact ⟨n, ZcO n, (ZaV (ids := [0]) (by kernel_rfl) (by decide) (fun i hi => by
    simp only [List.mem_cons, List.not_mem_nil, or_false] at hi
    rcases hi with rfl
    · exact ZaR (c2 := Zaj (Zac Tryz.f41) 0) (by kernel_rfl) (by kernel_rfl) (ZiR _ _ (Nat.le_refl _))
    )), (Zpv n a).trans hn⟩
def Zd9 {R : Type} (n : Nat) (a2 : List UInt8) (a3 : Nat) (kx0 : List Int → Option R) (y4 : Int) (h1 : List Int) (k : Int → List Int → Option R) : Option R :=
  cond (decide (y4 < (a3 : Int)))
  (Option.bind (if 0 ≤ y4 ∧ y4 < a3 ∧ y4 < h1.length then some y4.toNat else none) fun i3 =>
  Option.bind (h1[i3]?) fun e4 =>
  Option.bind (cond (decide (e4 ≥ (65 : Int))) (if 0 ≤ y4 ∧ y4 < a3 ∧ y4 < h1.length then some y4.toNat else none) (some 0)) fun i5 =>
  Option.bind (cond (decide (e4 ≥ (65 : Int))) (h1[i5]?) (some (0 : Int))) fun e6 =>
  Option.bind (some (cond (decide (e4 ≥ (65 : Int))) (decide (e6 ≤ (90 : Int))) false)) fun m7 =>
  Option.bind (cond m7 (if 0 ≤ y4 ∧ y4 < a3 ∧ y4 < h1.length then some y4.toNat else none) (some 0)) fun i8 =>
  Option.bind (cond m7 (h1[i8]?) (some (0 : Int))) fun e9 =>
  Option.bind (cond m7 (if 0 ≤ y4 ∧ y4 < a3 ∧ y4 < h1.length then some y4.toNat else none) (some 0)) fun i10 =>
  Option.bind (cond m7 (if i10 < h1.length then some (h1.set i10 (IntKind.u8.wrap (e9 + (32 : Int)))) else none) (some h1)) fun a11 =>
  Option.bind (some (cond m7 a11 h1)) fun m12 =>
  k (IntKind.i64.wrap (y4 + (1 : Int))) m12)
  (kx0 h1)
def Zgd (n : Nat) (p0 : List UInt8) : Option (List UInt8) :=
  Zei (Zd9 n [] p0.length (fun z1 =>
  Option.bind (if p0.length ≤ z1.length then some (ZjD (z1.take p0.length)) else none) fun s2 =>
  some s2)) n (0 : Int) (ZeN p0)
abbrev ZoO : List (Nat × TCall X) := []
noncomputable abbrev ZbY : Cx := ⟨C, U, ZoO , [], fun _ => []⟩
theorem Znl : okF (C.ann 51) Tryz.f51 1 = true := by kernel_rfl
abbrev ref26_Small_L0_D : LD := ⟨0, [.val 2 9, .osl 3 0 5], [.val 4 2, .harr false 5], [(0, [.harr false 5])], []⟩
abbrev ZcT (n : Nat) : LG U (PX X [9]) ref26_Small_L0_D := fun c kx kr y k => Zd9 n c.1 c.2.1 (fun z0 => kx 0 (z0, ())) y.1 y.2.1 (fun z0 z1 => k (z0, z1, ()))
noncomputable abbrev Zc3 (n : Nat) : Zek (ZbY ) (PX X [9]) := [(0, Zeo U ref26_Small_L0_D (ZcT n) n)]
theorem ZkT (n : Nat) : ∀ c kx kr y k1, evL (ZbY ) (ann 51) (Zc3 n) 0 (Zaj (Zac Tryz.f51) 0) (ZdT U ref26_Small_L0_D kx kr k1) (encS U ref26_Small_L0_D.cap ref26_Small_L0_D.din c y) = ZcT n c (fun i z => kx i c z) kr y (fun y2 => k1 c y2) := by
  intro c kx kr y k1
  kernel_rfl
theorem ZoJ (n : Nat) : ∀ a, fnL (ZbY ) true 51 Tryz.f51 [.ty 9] [9] (Zc3 n) a = Zgd n a := by
  intro a
  kernel_rfl
theorem ZhG {K : Zaa} : CallsOk (ZbY ) (Zab C K) :=
  ⟨Zaw, Zav⟩
theorem ZiY {K : Zaa} (n : Nat) (b0 : Base) (bn0 : b0.nr ≤ 0) : Law (ZbY ) b0 (Zab C K) (ann 51) n (Zaj (Zac Tryz.f51) 0) (Zeo U ref26_Small_L0_D (ZcT n) n) :=
  Zcf (x := ZbY ) (id := 0) ok (ZhG ) (sums := Zc3 n) (Zal (show Zak 0 (Zaj (Zac Tryz.f51) 0) = [] by kernel_rfl)) ref26_Small_L0_D bn0 (ZcT n) (ZkT n)
theorem ZjX {K : Zaa} (hK : ∀ args h, K 51 args h = none) (t : PX X (AK.tys [.ty 9]) → Option (PX X [9])) (h : ∀ a r, t a = some r → ∃ n, Zgd n a = some r) : Zag U (Zab C K) 51 ⟨true, [.ty 9], [9], t⟩ := by
  refine Zap (x := ZbY ) (ak := [.ty 9]) (rts := [9]) (dir := true) ok (ZhG ) hK Tryz.func51 Znl fun a r hr => ?_
  obtain ⟨n, hn⟩ := h a r hr
  exact ⟨n, Zc3 n, (ZaV (ids := [0]) (by kernel_rfl) (by decide) (fun i hi => by
    simp only [List.mem_cons, List.not_mem_nil, or_false] at hi
    rcases hi with rfl
    · exact ZaR (c2 := Zaj (Zac Tryz.f51) 0) (by kernel_rfl) (by kernel_rfl) (ZiY _ _ (Nat.le_refl _))
    )), (ZoJ n a).trans hn⟩
end Go.Tev.S1
namespace Go.Tev.S1
open Go.Abs Go.Proofs
abbrev T2a : Type := (List UInt8) → Option (List UInt8)
abbrev T2b : Type := (List Val) → Option Bool
abbrev T2c : Type := (List Val) → Option Int
abbrev T2d : Type := Val → Option Bool
abbrev T2e : Type := (List Val) → Option (List Val)
abbrev T2f : Type := (List UInt8) → Option Bool
abbrev P2a (K : Zaa) (t : T2a) : Prop := Zag U (Zab C K) 41 ⟨true, [.ty 9], [9], t⟩
abbrev P2b (K : Zaa) (t : T2b) : Prop := Zag U (Zab C K) 14 ⟨true, [.ty 22], [4], t⟩
abbrev P2c (K : Zaa) (t : T2c) : Prop := Zag U (Zab C K) 60 ⟨true, [.ty 22, .fn 40], [3], t⟩
abbrev P2d (K : Zaa) (t : T2d) : Prop := Zag U (Zab C K) 40 ⟨true, [.ty 51], [4], t⟩
abbrev P2e (K : Zaa) (t : T2b) : Prop := Zag U (Zab C K) 39 ⟨true, [.ty 22, .fn 40], [4], t⟩
abbrev P2f (K : Zaa) (t : T2a) : Prop := Zag U (Zab C K) 51 ⟨true, [.ty 9], [9], t⟩
abbrev P2g (K : Zaa) (t : T2b) : Prop := Zag U (Zab C K) 31 ⟨true, [.ty 22], [4], t⟩
abbrev P2h (K : Zaa) (t : T2c) : Prop := Zag U (Zab C K) 44 ⟨true, [.ty 22], [3], t⟩
abbrev P2i (K : Zaa) (t : T2c) : Prop := Zag U (Zab C K) 32 ⟨true, [.ty 22], [3], t⟩
abbrev P2k (K : Zaa) (t : T2e) : Prop := Zag U (Zab C K) 67 ⟨true, [.ty 22], [22], t⟩
abbrev P2l (K : Zaa) (t : T2f) : Prop := Zag U (Zab C K) 61 ⟨true, [.ty 9], [4], t⟩
abbrev P2m (K : Zaa) (t : T2e) : Prop := Zag U (Zab C K) 68 ⟨true, [.ty 22], [22], t⟩
def Zgi (qa : T2a) (qb : T2b) (n : Nat) (p0 : Val) : Option Bool :=
  Option.bind (cond (p0.tok.k == (2 : Int)) (qa p0.tok.t) (some [])) fun r1 =>
  Option.bind (some (cond (p0.tok.k == (2 : Int)) (r1 == [118, 97, 114]) false)) fun m2 =>
  Option.bind (cond (!m2) (qb p0.l) (some false)) fun r3 =>
  Option.bind (some (cond m2 true r3)) fun m4 =>
  some m4
abbrev ZoK (qa : T2a) (qb : T2b) : List (Nat × TCall X) := [(41, ⟨true, [.ty 9], [9], qa⟩), (14, ⟨true, [.ty 22], [4], qb⟩)]
noncomputable abbrev Zey (qa : T2a) (qb : T2b) : Cx := ⟨C, U, ZoK qa qb, [], fun _ => []⟩
theorem Znq : okF (C.ann 40) Tryz.f40 1 = true := by kernel_rfl
noncomputable abbrev Zgu (qa : T2a) (qb : T2b) (n : Nat) : Zek (Zey qa qb) (PX X [4]) := []
theorem Zoy (qa : T2a) (qb : T2b) (n : Nat) : ∀ a, fnL (Zey qa qb) true 40 Tryz.f40 [.ty 51] [4] (Zgu qa qb n) a = Zgi qa qb n a := by
  intro a
  kernel_rfl
theorem ZmX {K : Zaa} (qa : T2a) (qb : T2b) (h0 : P2a K qa) (h1 : P2b K qb) : CallsOk (Zey qa qb) (Zab C K) :=
  ⟨(Zae h0 (Zae h1 Zaw)), Zav⟩
theorem Zkh {K : Zaa} (hK : ∀ args h, K 40 args h = none) (qa : T2a) (qb : T2b) (h0 : P2a K qa) (h1 : P2b K qb) (t : PX X (AK.tys [.ty 51]) → Option (PX X [4])) (h : ∀ a r, t a = some r → ∃ n, Zgi qa qb n a = some r) : Zag U (Zab C K) 40 ⟨true, [.ty 51], [4], t⟩ := by
  refine Zap (x := Zey qa qb) (ak := [.ty 51]) (rts := [4]) (dir := true) ok (ZmX qa qb h0 h1) hK Tryz.func40 Znq fun a r hr => ?_
  obtain ⟨n, hn⟩ := h a r hr
  exact ⟨n, Zgu qa qb n, (Zal (show Zak 0 (Zac Tryz.f40) = [] by kernel_rfl)), (Zoy qa qb n a).trans hn⟩
def Zay (qc : T2c) (n : Nat) (p0 : List Val) : Option Bool :=
  Option.bind (qc p0) fun r1 =>
  some (decide (r1 ≥ (0 : Int)))
abbrev Zbn (qc : T2c) : List (Nat × TCall X) := [(60, ⟨true, [.ty 22, .fn 40], [3], qc⟩)]
noncomputable abbrev Zan (qc : T2c) : Cx := ⟨C, U, Zbn qc, [], fun _ => []⟩
theorem Zbi : okF (C.ann 39) Tryz.f39 2 = true := by kernel_rfl
noncomputable abbrev ZaD (qc : T2c) (n : Nat) : Zek (Zan qc) (PX X [4]) := []
theorem Zbm (qc : T2c) (n : Nat) : ∀ a, fnL (Zan qc) true 39 Tryz.f39 [.ty 22, .fn 40] [4] (ZaD qc n) a = Zay qc n a := by
  intro a
  kernel_rfl
theorem Zbe {K : Zaa} (qc : T2c) (h0 : P2c K qc) : CallsOk (Zan qc) (Zab C K) :=
  ⟨(Zae h0 Zaw), Zav⟩
theorem Za7 {K : Zaa} (hK : ∀ args h, K 39 args h = none) (qc : T2c) (h0 : P2c K qc) (t : PX X (AK.tys [.ty 22, .fn 40]) → Option (PX X [4])) (h : ∀ a r, t a = some r → ∃ n, Zay qc n a = some r) : Zag U (Zab C K) 39 ⟨true, [.ty 22, .fn 40], [4], t⟩ := by
  refine Zap (x := Zan qc) (ak := [.ty 22, .fn 40]) (rts := [4]) (dir := true) ok (Zbe qc h0) hK Tryz.func39 Zbi fun a r hr => ?_
  obtain ⟨n, hn⟩ := h a r hr
  exact ⟨n, ZaD qc n, (Zal (show Zak 0 (Zac Tryz.f39) = [] by kernel_rfl)), (Zbm qc n a).trans hn⟩
def Zaq (qd : T2d) {R : Type} (n : Nat) (a0 : List Val) (_ : Unit) (a7 : Int) (kx0 : Int → Option R) (kr : Int → Option R) (y4 : Int) (y8 : Int) (k : Int → Int → Option R) : Option R :=
  cond (decide (y8 < a7))
  (Option.bind (ZdC a0 y8) fun x3 =>
  Option.bind (qd (Val.mk x3.tok x3.l)) fun r4 =>
  cond r4
  (kr y8)
  (k y4 (IntKind.i64.wrap (y8 + (1 : Int)))))
  (kx0 y4)
def Zat (qd : T2d) (n : Nat) (p0 : List Val) : Option Int :=
  Zei (Zaq qd n p0 () (p0.length : Int) (fun z1 =>
  some (-1 : Int)) (fun z2 =>
  some z2)) n (0 : Int) (0 : Int)
abbrev Zbz (qd : T2d) : List (Nat × TCall X) := [(40, ⟨true, [.ty 51], [4], qd⟩)]
noncomputable abbrev Zaf (qd : T2d) : Cx := ⟨C, U, Zbz qd, [], fun _ => []⟩
theorem Zbt : okF (C.ann 60) Tryz.f60 2 = true := by kernel_rfl
abbrev slices_IndexFuncapi_Value_api_Value_short_Var_1_L0_D : LD := ⟨0, [.val 0 22, .fn 1 40, .val 7 2], [.val 4 2, .val 8 2], [(0, [.val 4 2])], [.val 4 3]⟩
abbrev Zao (qd : T2d) (n : Nat) : LG U (PX X [3]) slices_IndexFuncapi_Value_api_Value_short_Var_1_L0_D := fun c kx kr y k => Zaq qd n c.1 c.2.1 c.2.2.1 (fun z0 => kx 0 (z0, ())) (fun z0 => kr (z0, ())) y.1 y.2.1 (fun z0 z1 => k (z0, z1, ()))
noncomputable abbrev Zam (qd : T2d) (n : Nat) : Zek (Zaf qd) (PX X [3]) := [(0, Zeo U slices_IndexFuncapi_Value_api_Value_short_Var_1_L0_D (Zao qd n) n)]
theorem Zbl (qd : T2d) (n : Nat) : ∀ c kx kr y k1, evL (Zaf qd) (ann 60) (Zam qd n) 0 (Zaj (Zac Tryz.f60) 0) (ZdT U slices_IndexFuncapi_Value_api_Value_short_Var_1_L0_D kx kr k1) (encS U slices_IndexFuncapi_Value_api_Value_short_Var_1_L0_D.cap slices_IndexFuncapi_Value_api_Value_short_Var_1_L0_D.din c y) = Zao qd n c (fun i z => kx i c z) kr y (fun y2 => k1 c y2) := by
  intro c kx kr y k1
  kernel_rfl
theorem ZbA (qd : T2d) (n : Nat) : ∀ a, fnL (Zaf qd) true 60 Tryz.f60 [.ty 22, .fn 40] [3] (Zam qd n) a = Zat qd n a := by
  intro a
  kernel_rfl
theorem ZaH {K : Zaa} (qd : T2d) (h0 : P2d K qd) : CallsOk (Zaf qd) (Zab C K) :=
  ⟨(Zae h0 Zaw), Zav⟩
theorem Zbc {K : Zaa} (qd : T2d) (h0 : P2d K qd) (n : Nat) (b0 : Base) (bn0 : b0.nr ≤ 0) : Law (Zaf qd) b0 (Zab C K) (ann 60) n (Zaj (Zac Tryz.f60) 0) (Zeo U slices_IndexFuncapi_Value_api_Value_short_Var_1_L0_D (Zao qd n) n) :=
  Zcf (x := Zaf qd) (id := 0) ok (ZaH qd h0) (sums := Zam qd n) (Zal (show Zak 0 (Zaj (Zac Tryz.f60) 0) = [] by kernel_rfl)) slices_IndexFuncapi_Value_api_Value_short_Var_1_L0_D bn0 (Zao qd n) (Zbl qd n)
theorem Zbd {K : Zaa} (hK : ∀ args h, K 60 args h = none) (qd : T2d) (h0 : P2d K qd) (t : PX X (AK.tys [.ty 22, .fn 40]) → Option (PX X [3])) (h : ∀ a r, t a = some r → ∃ n, Zat qd n a = some r) : Zag U (Zab C K) 60 ⟨true, [.ty 22, .fn 40], [3], t⟩ := by
  refine Zap (x := Zaf qd) (ak := [.ty 22, .fn 40]) (rts := [3]) (dir := true) ok (ZaH qd h0) hK Tryz.func60 Zbt fun a r hr => ?_
  obtain ⟨n, hn⟩ := h a r hr
  exact ⟨n, Zam qd n, (ZaV (ids := [0]) (by kernel_rfl) (by decide) (fun i hi => by
    simp only [List.mem_cons, List.not_mem_nil, or_false] at hi
    rcases hi with rfl
    · exact ZaR (c2 := Zaj (Zac Tryz.f60) 0) (by kernel_rfl) (by kernel_rfl) (Zbc qd h0 _ _ (Nat.le_refl _))
    )), (ZbA qd n a).trans hn⟩
def Zmi (qe : T2b) (n : Nat) (p0 : List Val) : Option Bool :=
  Option.bind (qe p0) fun r1 =>
  some r1
abbrev Ztr (qe : T2b) : List (Nat × TCall X) := [(39, ⟨true, [.ty 22, .fn 40], [4], qe⟩)]
noncomputable abbrev Zgb (qe : T2b) : Cx := ⟨C, U, Ztr qe, [], fun _ => []⟩
theorem ZrT : okF (C.ann 14) Tryz.f14 1 = true := by kernel_rfl
noncomputable abbrev ZhU (qe : T2b) (n : Nat) : Zek (Zgb qe) (PX X [4]) := []
theorem ZsK (qe : T2b) (n : Nat) : ∀ a, fnL (Zgb qe) true 14 Tryz.f14 [.ty 22] [4] (ZhU qe n) a = Zmi qe n a := by
  intro a
  kernel_rfl
theorem Zse {K : Zaa} (qe : T2b) (h0 : P2e K qe) : CallsOk (Zgb qe) (Zab C K) :=
  ⟨(Zae h0 Zaw), Zav⟩
theorem Zly {K : Zaa} (hK : ∀ args h, K 14 args h = none) (qe : T2b) (h0 : P2e K qe) (t : PX X (AK.tys [.ty 22]) → Option (PX X [4])) (h : ∀ a r, t a = some r → ∃ n, Zmi qe n a = some r) : Zag U (Zab C K) 14 ⟨true, [.ty 22], [4], t⟩ := by
  refine Zap (x := Zgb qe) (ak := [.ty 22]) (rts := [4]) (dir := true) ok (Zse qe h0) hK Tryz.func14 ZrT fun a r hr => ?_
  obtain ⟨n, hn⟩ := h a r hr
  exact ⟨n, ZhU qe n, (Zal (show Zak 0 (Zac Tryz.f14) = [] by kernel_rfl)), (ZsK qe n a).trans hn⟩
def Zfb (qf : T2a) (qg : T2b) {R : Type} (n : Nat) (a0 : List Val) (kx0 : Bool → Option R) (kr : Bool → Option R) (y2 : Bool) (y3 : Int) (k : Bool → Int → Option R) : Option R :=
  cond (decide (y3 < (a0.length : Int)))
  (Option.bind (ZdC a0 y3) fun x3 =>
  Option.bind (cond (x3.tok.k == (2 : Int)) (qf x3.tok.t) (some [])) fun r4 =>
  Option.bind (some (cond (x3.tok.k == (2 : Int)) (r4 == [118, 97, 114]) false)) fun m5 =>
  Option.bind (cond (!m5) (ZdC a0 y3) (some Zv5)) fun x6 =>
  Option.bind (cond (!m5) (qg x6.l) (some false)) fun r7 =>
  Option.bind (some (cond m5 true r7)) fun m8 =>
  cond m8
  (kr true)
  (k y2 (IntKind.i64.wrap (y3 + (1 : Int)))))
  (kx0 y2)
def Zi5 (qf : T2a) (qg : T2b) (n : Nat) (p0 : List Val) : Option Bool :=
  Zei (Zfb qf qg n p0 (fun z1 =>
  some false) (fun z2 =>
  some z2)) n false (0 : Int)
abbrev Ztj (qf : T2a) (qg : T2b) : List (Nat × TCall X) := [(51, ⟨true, [.ty 9], [9], qf⟩), (31, ⟨true, [.ty 22], [4], qg⟩)]
noncomputable abbrev Zc8 (qf : T2a) (qg : T2b) : Cx := ⟨C, U, Ztj qf qg, [], fun _ => []⟩
theorem Zq5 : okF (C.ann 31) Tryz.f31 1 = true := by kernel_rfl
abbrev ref27_Var_L0_D : LD := ⟨0, [.val 0 22], [.val 2 4, .val 3 2], [(0, [.val 2 4])], [.val 2 4]⟩
abbrev Zd4 (qf : T2a) (qg : T2b) (n : Nat) : LG U (PX X [4]) ref27_Var_L0_D := fun c kx kr y k => Zfb qf qg n c.1 (fun z0 => kx 0 (z0, ())) (fun z0 => kr (z0, ())) y.1 y.2.1 (fun z0 z1 => k (z0, z1, ()))
noncomputable abbrev Zd7 (qf : T2a) (qg : T2b) (n : Nat) : Zek (Zc8 qf qg) (PX X [4]) := [(0, Zeo U ref27_Var_L0_D (Zd4 qf qg n) n)]
theorem Znc (qf : T2a) (qg : T2b) (n : Nat) : ∀ c kx kr y k1, evL (Zc8 qf qg) (ann 31) (Zd7 qf qg n) 0 (Zaj (Zac Tryz.f31) 0) (ZdT U ref27_Var_L0_D kx kr k1) (encS U ref27_Var_L0_D.cap ref27_Var_L0_D.din c y) = Zd4 qf qg n c (fun i z => kx i c z) kr y (fun y2 => k1 c y2) := by
  intro c kx kr y k1
  kernel_rfl
theorem ZsE (qf : T2a) (qg : T2b) (n : Nat) : ∀ a, fnL (Zc8 qf qg) true 31 Tryz.f31 [.ty 22] [4] (Zd7 qf qg n) a = Zi5 qf qg n a := by
  intro a
  kernel_rfl
theorem Zkz {K : Zaa} (qf : T2a) (qg : T2b) (h0 : P2f K qf) (h1 : P2g K qg) : CallsOk (Zc8 qf qg) (Zab C K) :=
  ⟨(Zae h0 (Zae h1 Zaw)), Zav⟩
theorem ZkW {K : Zaa} (qf : T2a) (qg : T2b) (h0 : P2f K qf) (h1 : P2g K qg) (n : Nat) (b0 : Base) (bn0 : b0.nr ≤ 0) : Law (Zc8 qf qg) b0 (Zab C K) (ann 31) n (Zaj (Zac Tryz.f31) 0) (Zeo U ref27_Var_L0_D (Zd4 qf qg n) n) :=
  Zcf (x := Zc8 qf qg) (id := 0) ok (Zkz qf qg h0 h1) (sums := Zd7 qf qg n) (Zal (show Zak 0 (Zaj (Zac Tryz.f31) 0) = [] by kernel_rfl)) ref27_Var_L0_D bn0 (Zd4 qf qg n) (Znc qf qg n)
theorem ZlM {K : Zaa} (hK : ∀ args h, K 31 args h = none) (qf : T2a) (qg : T2b) (h0 : P2f K qf) (h1 : P2g K qg) (t : PX X (AK.tys [.ty 22]) → Option (PX X [4])) (h : ∀ a r, t a = some r → ∃ n, Zi5 qf qg n a = some r) : Zag U (Zab C K) 31 ⟨true, [.ty 22], [4], t⟩ := by
  refine Zap (x := Zc8 qf qg) (ak := [.ty 22]) (rts := [4]) (dir := true) ok (Zkz qf qg h0 h1) hK Tryz.func31 Zq5 fun a r hr => ?_
  obtain ⟨n, hn⟩ := h a r hr
  exact ⟨n, Zd7 qf qg n, (ZaV (ids := [0]) (by kernel_rfl) (by decide) (fun i hi => by
    simp only [List.mem_cons, List.not_mem_nil, or_false] at hi
    rcases hi with rfl
    · exact ZaR (c2 := Zaj (Zac Tryz.f31) 0) (by kernel_rfl) (by kernel_rfl) (ZkW qf qg h0 h1 _ _ (Nat.le_refl _))
    )), (ZsE qf qg n a).trans hn⟩
def Zd3 (qh : T2c) {R : Type} (n : Nat) (a2 : Int) (a6 : List Val) (a7 : Int) (kx0 : Int → Option R) (y3 : Int) (y8 : Int) (k : Int → Int → Option R) : Option R :=
  cond (decide (y8 < a7))
  (Option.bind (ZdC a6 y8) fun x2 =>
  Option.bind (qh x2.l) fun r3 =>
  k (IntKind.i64.wrap (y3 + (IntKind.i64.wrap ((IntKind.i64.wrap ((IntKind.i64.wrap ((1 : Int) + (x2.tok.t.length : Int))) + (x2.tok.u.length : Int))) + r3)))) (IntKind.i64.wrap (y8 + (1 : Int))))
  (kx0 y3)
def ZfY (qh : T2c) (n : Nat) (p0 : List Val) : Option Int :=
  Zei (Zd3 qh n (0 : Int) p0 (p0.length : Int) (fun z1 =>
  some z1)) n (0 : Int) (0 : Int)
abbrev ZoG (qh : T2c) : List (Nat × TCall X) := [(44, ⟨true, [.ty 22], [3], qh⟩)]
noncomputable abbrev Zb3 (qh : T2c) : Cx := ⟨C, U, ZoG qh, [], fun _ => []⟩
theorem Zm0 : okF (C.ann 44) Tryz.f44 1 = true := by kernel_rfl
abbrev vars_length_L0_D : LD := ⟨0, [.val 2 2, .val 6 22, .val 7 2], [.val 3 2, .val 8 2], [(0, [.val 3 2])], []⟩
abbrev ZcY (qh : T2c) (n : Nat) : LG U (PX X [3]) vars_length_L0_D := fun c kx kr y k => Zd3 qh n c.1 c.2.1 c.2.2.1 (fun z0 => kx 0 (z0, ())) y.1 y.2.1 (fun z0 z1 => k (z0, z1, ()))
noncomputable abbrev Zc4 (qh : T2c) (n : Nat) : Zek (Zb3 qh) (PX X [3]) := [(0, Zeo U vars_length_L0_D (ZcY qh n) n)]
theorem ZkJ (qh : T2c) (n : Nat) : ∀ c kx kr y k1, evL (Zb3 qh) (ann 44) (Zc4 qh n) 0 (Zaj (Zac Tryz.f44) 0) (ZdT U vars_length_L0_D kx kr k1) (encS U vars_length_L0_D.cap vars_length_L0_D.din c y) = ZcY qh n c (fun i z => kx i c z) kr y (fun y2 => k1 c y2) := by
  intro c kx kr y k1
  kernel_rfl
theorem ZpT (qh : T2c) (n : Nat) : ∀ a, fnL (Zb3 qh) true 44 Tryz.f44 [.ty 22] [3] (Zc4 qh n) a = ZfY qh n a := by
  intro a
  kernel_rfl
theorem ZhP {K : Zaa} (qh : T2c) (h0 : P2h K qh) : CallsOk (Zb3 qh) (Zab C K) :=
  ⟨(Zae h0 Zaw), Zav⟩
theorem ZiM {K : Zaa} (qh : T2c) (h0 : P2h K qh) (n : Nat) (b0 : Base) (bn0 : b0.nr ≤ 0) : Law (Zb3 qh) b0 (Zab C K) (ann 44) n (Zaj (Zac Tryz.f44) 0) (Zeo U vars_length_L0_D (ZcY qh n) n) :=
  Zcf (x := Zb3 qh) (id := 0) ok (ZhP qh h0) (sums := Zc4 qh n) (Zal (show Zak 0 (Zaj (Zac Tryz.f44) 0) = [] by kernel_rfl)) vars_length_L0_D bn0 (ZcY qh n) (ZkJ qh n)
theorem Zj7 {K : Zaa} (hK : ∀ args h, K 44 args h = none) (qh : T2c) (h0 : P2h K qh) (t : PX X (AK.tys [.ty 22]) → Option (PX X [3])) (h : ∀ a r, t a = some r → ∃ n, ZfY qh n a = some r) : Zag U (Zab C K) 44 ⟨true, [.ty 22], [3], t⟩ := by
  refine Zap (x := Zb3 qh) (ak := [.ty 22]) (rts := [3]) (dir := true) ok (ZhP qh h0) hK Tryz.func44 Zm0 fun a r hr => ?_
  obtain ⟨n, hn⟩ := h a r hr
  exact ⟨n, Zc4 qh n, (ZaV (ids := [0]) (by kernel_rfl) (by decide) (fun i hi => by
    simp only [List.mem_cons, List.not_mem_nil, or_false] at hi
    rcases hi with rfl
    · exact ZaR (c2 := Zaj (Zac Tryz.f44) 0) (by kernel_rfl) (by kernel_rfl) (ZiM qh h0 _ _ (Nat.le_refl _))
    )), (ZpT qh n a).trans hn⟩
def ZeB (qi : T2c) {R : Type} (n : Nat) (a0 : List Val) (a2 : Int) (kx0 : Int → Option R) (y3 : Int) (y4 : Int) (k : Int → Int → Option R) : Option R :=
  cond (decide (y4 < (a0.length : Int)))
  (Option.bind (ZdC a0 y4) fun x2 =>
  Option.bind (ZdC a0 y4) fun x3 =>
  Option.bind (ZdC a0 y4) fun x4 =>
  Option.bind (qi x4.l) fun r5 =>
  k (IntKind.i64.wrap (y3 + (IntKind.i64.wrap ((IntKind.i64.wrap ((IntKind.i64.wrap ((1 : Int) + (x2.tok.t.length : Int))) + (x3.tok.u.length : Int))) + r5)))) (IntKind.i64.wrap (y4 + (1 : Int))))
  (kx0 y3)
def Zhh (qi : T2c) (n : Nat) (p0 : List Val) : Option Int :=
  Zei (ZeB qi n p0 (0 : Int) (fun z1 =>
  some z1)) n (0 : Int) (0 : Int)
abbrev Zqp (qi : T2c) : List (Nat × TCall X) := [(32, ⟨true, [.ty 22], [3], qi⟩)]
noncomputable abbrev Zci (qi : T2c) : Cx := ⟨C, U, Zqp qi, [], fun _ => []⟩
theorem ZpH : okF (C.ann 32) Tryz.f32 1 = true := by kernel_rfl
abbrev ref30_Long_L0_D : LD := ⟨0, [.val 0 22, .val 2 2], [.val 3 2, .val 4 2], [(0, [.val 3 2])], []⟩
abbrev Zdo (qi : T2c) (n : Nat) : LG U (PX X [3]) ref30_Long_L0_D := fun c kx kr y k => ZeB qi n c.1 c.2.1 (fun z0 => kx 0 (z0, ())) y.1 y.2.1 (fun z0 z1 => k (z0, z1, ()))
noncomputable abbrev Zdl (qi : T2c) (n : Nat) : Zek (Zci qi) (PX X [3]) := [(0, Zeo U ref30_Long_L0_D (Zdo qi n) n)]
theorem ZlF (qi : T2c) (n : Nat) : ∀ c kx kr y k1, evL (Zci qi) (ann 32) (Zdl qi n) 0 (Zaj (Zac Tryz.f32) 0) (ZdT U ref30_Long_L0_D kx kr k1) (encS U ref30_Long_L0_D.cap ref30_Long_L0_D.din c y) = Zdo qi n c (fun i z => kx i c z) kr y (fun y2 => k1 c y2) := by
  intro c kx kr y k1
  kernel_rfl
theorem Zqn (qi : T2c) (n : Nat) : ∀ a, fnL (Zci qi) true 32 Tryz.f32 [.ty 22] [3] (Zdl qi n) a = Zhh qi n a := by
  intro a
  kernel_rfl
theorem Zja {K : Zaa} (qi : T2c) (h0 : P2i K qi) : CallsOk (Zci qi) (Zab C K) :=
  ⟨(Zae h0 Zaw), Zav⟩
theorem ZjW {K : Zaa} (qi : T2c) (h0 : P2i K qi) (n : Nat) (b0 : Base) (bn0 : b0.nr ≤ 0) : Law (Zci qi) b0 (Zab C K) (ann 32) n (Zaj (Zac Tryz.f32) 0) (Zeo U ref30_Long_L0_D (Zdo qi n) n) :=
  Zcf (x := Zci qi) (id := 0) ok (Zja qi h0) (sums := Zdl qi n) (Zal (show Zak 0 (Zaj (Zac Tryz.f32) 0) = [] by kernel_rfl)) ref30_Long_L0_D bn0 (Zdo qi n) (ZlF qi n)
theorem ZkZ {K : Zaa} (hK : ∀ args h, K 32 args h = none) (qi : T2c) (h0 : P2i K qi) (t : PX X (AK.tys [.ty 22]) → Option (PX X [3])) (h : ∀ a r, t a = some r → ∃ n, Zhh qi n a = some r) : Zag U (Zab C K) 32 ⟨true, [.ty 22], [3], t⟩ := by
  refine Zap (x := Zci qi) (ak := [.ty 22]) (rts := [3]) (dir := true) ok (Zja qi h0) hK Tryz.func32 ZpH fun a r hr => ?_
  obtain ⟨n, hn⟩ := h a r hr
  exact ⟨n, Zdl qi n, (ZaV (ids := [0]) (by kernel_rfl) (by decide) (fun i hi => by
    simp only [List.mem_cons, List.not_mem_nil, or_false] at hi
    rcases hi with rfl
    · exact ZaR (c2 := Zaj (Zac Tryz.f32) 0) (by kernel_rfl) (by kernel_rfl) (ZjW qi h0 _ _ (Nat.le_refl _))
    )), (Zqn qi n a).trans hn⟩
def Zhz (n : Nat) (p0 : Val) : Option Bool :=
  Option.bind (some (cond (p0.tok.k == (2 : Int)) ((p0.tok.t.length : Int) == (3 : Int)) false)) fun m1 =>
  Option.bind (cond m1 (ZdC p0.tok.t (0 : Int)) (some 0)) fun b2 =>
  Option.bind (some (cond m1 ((IntKind.u8.wrap (BitVec.ofInt (IntKind.u8).bits (b2.toNat : Int) ||| BitVec.ofInt (IntKind.u8).bits (32 : Int)).toNat) == (118 : Int)) false)) fun m3 =>
  Option.bind (cond m3 (ZdC p0.tok.t (1 : Int)) (some 0)) fun b4 =>
  Option.bind (some (cond m3 ((IntKind.u8.wrap (BitVec.ofInt (IntKind.u8).bits (b4.toNat : Int) ||| BitVec.ofInt (IntKind.u8).bits (32 : Int)).toNat) == (97 : Int)) false)) fun m5 =>
  Option.bind (cond m5 (ZdC p0.tok.t (2 : Int)) (some 0)) fun b6 =>
  Option.bind (some (cond m5 ((IntKind.u8.wrap (BitVec.ofInt (IntKind.u8).bits (b6.toNat : Int) ||| BitVec.ofInt (IntKind.u8).bits (32 : Int)).toNat) == (114 : Int)) false)) fun m7 =>
  some m7
abbrev Zq1 : List (Nat × TCall X) := []
noncomputable abbrev Ze2 : Cx := ⟨C, U, Zq1 , [], fun _ => []⟩
theorem Zpq : okF (C.ann 55) Tryz.f55 1 = true := by kernel_rfl
noncomputable abbrev ZgT (n : Nat) : Zek (Ze2 ) (PX X [4]) := []
theorem ZqQ (n : Nat) : ∀ a, fnL (Ze2 ) true 55 Tryz.f55 [.ty 51] [4] (ZgT n) a = Zhz n a := by
  intro a
  kernel_rfl
theorem ZoQ {K : Zaa} : CallsOk (Ze2 ) (Zab C K) :=
  ⟨Zaw, Zav⟩
theorem ZkI {K : Zaa} (hK : ∀ args h, K 55 args h = none) (t : PX X (AK.tys [.ty 51]) → Option (PX X [4])) (h : ∀ a r, t a = some r → ∃ n, Zhz n a = some r) : Zag U (Zab C K) 55 ⟨true, [.ty 51], [4], t⟩ := by
  refine Zap (x := Ze2 ) (ak := [.ty 51]) (rts := [4]) (dir := true) ok (ZoQ ) hK Tryz.func55 Zpq fun a r hr => ?_
  obtain ⟨n, hn⟩ := h a r hr
  exact ⟨n, ZgT n, (Zal (show Zak 0 (Zac Tryz.f55) = [] by kernel_rfl)), (ZqQ n a).trans hn⟩
def Zft {R : Type} (n : Nat) (a2 : List Val) (kx0 : List Val → Option R) (y0 : List Val) (k : List Val → Option R) : Option R :=
  Option.bind (cond (decide ((y0.length : Int) > (0 : Int))) (ZdC y0 (0 : Int)) (some Zv5)) fun x2 =>
  Option.bind (some (cond (decide ((y0.length : Int) > (0 : Int))) (x2.tok.k == (13 : Int)) false)) fun m3 =>
  cond m3
  (Option.bind (Zsi y0 (1 : Int) (y0.length : Int)) fun s4 =>
  k s4)
  (kx0 y0)
def Zf0 (n : Nat) (p0 : List Val) : Option (List Val) :=
  Zvr (Zft n [] (fun z1 =>
  some z1)) n p0
abbrev Zp7 : List (Nat × TCall X) := []
noncomputable abbrev ZbV : Cx := ⟨C, U, Zp7 , [], fun _ => []⟩
theorem Zne : okF (C.ann 67) Tryz.f67 1 = true := by kernel_rfl
abbrev vars_spaces_L0_D : LD := ⟨0, [.val 2 22], [.val 0 22], [(0, [.val 0 22])], []⟩
abbrev ZcQ (n : Nat) : LG U (PX X [22]) vars_spaces_L0_D := fun c kx kr y k => Zft n c.1 (fun z0 => kx 0 (z0, ())) y.1 (fun z0 => k (z0, ()))
noncomputable abbrev Zc1 (n : Nat) : Zek (ZbV ) (PX X [22]) := [(0, Zeo U vars_spaces_L0_D (ZcQ n) n)]
theorem ZkK (n : Nat) : ∀ c kx kr y k1, evL (ZbV ) (ann 67) (Zc1 n) 0 (Zaj (Zac Tryz.f67) 0) (ZdT U vars_spaces_L0_D kx kr k1) (encS U vars_spaces_L0_D.cap vars_spaces_L0_D.din c y) = ZcQ n c (fun i z => kx i c z) kr y (fun y2 => k1 c y2) := by
  intro c kx kr y k1
  kernel_rfl
theorem ZoR (n : Nat) : ∀ a, fnL (ZbV ) true 67 Tryz.f67 [.ty 22] [22] (Zc1 n) a = Zf0 n a := by
  intro a
  kernel_rfl
theorem ZhV {K : Zaa} : CallsOk (ZbV ) (Zab C K) :=
  ⟨Zaw, Zav⟩
theorem Zjc {K : Zaa} (n : Nat) (b0 : Base) (bn0 : b0.nr ≤ 0) : Law (ZbV ) b0 (Zab C K) (ann 67) n (Zaj (Zac Tryz.f67) 0) (Zeo U vars_spaces_L0_D (ZcQ n) n) :=
  Zcf (x := ZbV ) (id := 0) ok (ZhV ) (sums := Zc1 n) (Zal (show Zak 0 (Zaj (Zac Tryz.f67) 0) = [] by kernel_rfl)) vars_spaces_L0_D bn0 (ZcQ n) (ZkK n)
theorem ZjU {K : Zaa} (hK : ∀ args h, K 67 args h = none) (t : PX X (AK.tys [.ty 22]) → Option (PX X [22])) (h : ∀ a r, t a = some r → ∃ n, Zf0 n a = some r) : Zag U (Zab C K) 67 ⟨true, [.ty 22], [22], t⟩ := by
  refine Zap (x := ZbV ) (ak := [.ty 22]) (rts := [22]) (dir := true) ok (ZhV ) hK Tryz.func67 Zne fun a r hr => ?_
  obtain ⟨n, hn⟩ := h a r hr
  exact ⟨n, Zc1 n, (ZaV (ids := [0]) (by kernel_rfl) (by decide) (fun i hi => by
    simp only [List.mem_cons, List.not_mem_nil, or_false] at hi
    rcases hi with rfl
    · exact ZaR (c2 := Zaj (Zac Tryz.f67) 0) (by kernel_rfl) (by kernel_rfl) (Zjc _ _ (Nat.le_refl _))
    )), (ZoR n a).trans hn⟩
def ZgX (qk : T2e) {R : Type} (n : Nat) (a2 : List Val) (kx0 : List Val → Option R) (y0 : List Val) (k : List Val → Option R) : Option R :=
  Option.bind (cond (decide ((y0.length : Int) > (0 : Int))) (ZdC y0 (IntKind.i64.wrap ((y0.length : Int) - (1 : Int)))) (some Zv5)) fun x3 =>
  Option.bind (some (cond (decide ((y0.length : Int) > (0 : Int))) (x3.tok.k == (13 : Int)) false)) fun m4 =>
  cond m4
  (Option.bind (Zsi y0 (0 : Int) (IntKind.i64.wrap ((y0.length : Int) - (1 : Int)))) fun s5 =>
  k s5)
  (kx0 y0)
def Zi7 (qk : T2e) (n : Nat) (p0 : List Val) : Option (List Val) :=
  Option.bind (qk p0) fun r1 =>
  Zvr (ZgX qk n [] (fun z2 =>
  some z2)) n r1
abbrev Zsj (qk : T2e) : List (Nat × TCall X) := [(67, ⟨true, [.ty 22], [22], qk⟩)]
noncomputable abbrev Zda (qk : T2e) : Cx := ⟨C, U, Zsj qk, [], fun _ => []⟩
theorem Zrt : okF (C.ann 68) Tryz.f68 1 = true := by kernel_rfl
abbrev vars_trim_L0_D : LD := ⟨0, [.val 2 22], [.val 0 22], [(0, [.val 0 22])], []⟩
abbrev Zeb (qk : T2e) (n : Nat) : LG U (PX X [22]) vars_trim_L0_D := fun c kx kr y k => ZgX qk n c.1 (fun z0 => kx 0 (z0, ())) y.1 (fun z0 => k (z0, ()))
noncomputable abbrev Zea (qk : T2e) (n : Nat) : Zek (Zda qk) (PX X [22]) := [(0, Zeo U vars_trim_L0_D (Zeb qk n) n)]
theorem Zm5 (qk : T2e) (n : Nat) : ∀ c kx kr y k1, evL (Zda qk) (ann 68) (Zea qk n) 0 (Zaj (Zac Tryz.f68) 0) (ZdT U vars_trim_L0_D kx kr k1) (encS U vars_trim_L0_D.cap vars_trim_L0_D.din c y) = Zeb qk n c (fun i z => kx i c z) kr y (fun y2 => k1 c y2) := by
  intro c kx kr y k1
  kernel_rfl
theorem Zsl (qk : T2e) (n : Nat) : ∀ a, fnL (Zda qk) true 68 Tryz.f68 [.ty 22] [22] (Zea qk n) a = Zi7 qk n a := by
  intro a
  kernel_rfl
theorem Zkw {K : Zaa} (qk : T2e) (h0 : P2k K qk) : CallsOk (Zda qk) (Zab C K) :=
  ⟨(Zae h0 Zaw), Zav⟩
theorem Zk5 {K : Zaa} (qk : T2e) (h0 : P2k K qk) (n : Nat) (b0 : Base) (bn0 : b0.nr ≤ 0) : Law (Zda qk) b0 (Zab C K) (ann 68) n (Zaj (Zac Tryz.f68) 0) (Zeo U vars_trim_L0_D (Zeb qk n) n) :=
  Zcf (x := Zda qk) (id := 0) ok (Zkw qk h0) (sums := Zea qk n) (Zal (show Zak 0 (Zaj (Zac Tryz.f68) 0) = [] by kernel_rfl)) vars_trim_L0_D bn0 (Zeb qk n) (Zm5 qk n)
theorem ZlJ {K : Zaa} (hK : ∀ args h, K 68 args h = none) (qk : T2e) (h0 : P2k K qk) (t : PX X (AK.tys [.ty 22]) → Option (PX X [22])) (h : ∀ a r, t a = some r → ∃ n, Zi7 qk n a = some r) : Zag U (Zab C K) 68 ⟨true, [.ty 22], [22], t⟩ := by
  refine Zap (x := Zda qk) (ak := [.ty 22]) (rts := [22]) (dir := true) ok (Zkw qk h0) hK Tryz.func68 Zrt fun a r hr => ?_
  obtain ⟨n, hn⟩ := h a r hr
  exact ⟨n, Zea qk n, (ZaV (ids := [0]) (by kernel_rfl) (by decide) (fun i hi => by
    simp only [List.mem_cons, List.not_mem_nil, or_false] at hi
    rcases hi with rfl
    · exact ZaR (c2 := Zaj (Zac Tryz.f68) 0) (by kernel_rfl) (by kernel_rfl) (Zk5 qk h0 _ _ (Nat.le_refl _))
    )), (Zsl qk n a).trans hn⟩
def ZhA (qk : T2e) (ql : T2f) (qm : T2e) (n : Nat) (p0 : Val) : Option ((List UInt8) × (List Val) × Bool) :=
  Option.bind (qk p0.l) fun r1 =>
  Option.bind (cond (!((r1.length : Int) == (0 : Int))) (ZdC r1 (0 : Int)) (some Zv5)) fun x2 =>
  Option.bind (some (cond ((r1.length : Int) == (0 : Int)) true (x2.tok.k != (1 : Int)))) fun m3 =>
  Option.bind (cond (!m3) (ZdC r1 (0 : Int)) (some Zv5)) fun x4 =>
  Option.bind (cond (!m3) (ql x4.tok.t) (some false)) fun r5 =>
  Option.bind (some (cond m3 true (!r5))) fun m6 =>
  cond m6
  (some ([], [], false))
  (Option.bind (ZdC r1 (0 : Int)) fun x7 =>
  Option.bind (Zsi r1 (1 : Int) (r1.length : Int)) fun s8 =>
  Option.bind (qk s8) fun r9 =>
  cond ((r9.length : Int) == (0 : Int))
  (some (x7.tok.t, [], false))
  (Option.bind (ZdC r9 (0 : Int)) fun x10 =>
  cond (x10.tok.k == (18 : Int))
  (Option.bind (Zsi r9 (1 : Int) (r9.length : Int)) fun s11 =>
  Option.bind (qm s11) fun r12 =>
  some (x7.tok.t, r12, true))
  (some ([], [], false))))
abbrev ZrE (qk : T2e) (ql : T2f) (qm : T2e) : List (Nat × TCall X) := [(67, ⟨true, [.ty 22], [22], qk⟩), (61, ⟨true, [.ty 9], [4], ql⟩), (68, ⟨true, [.ty 22], [22], qm⟩)]
noncomputable abbrev Zfa (qk : T2e) (ql : T2f) (qm : T2e) : Cx := ⟨C, U, ZrE qk ql qm, [], fun _ => []⟩
theorem ZoA : okF (C.ann 56) Tryz.f56 1 = true := by kernel_rfl
noncomputable abbrev ZgJ (qk : T2e) (ql : T2f) (qm : T2e) (n : Nat) : Zek (Zfa qk ql qm) (PX X [9, 22, 4]) := []
theorem Zsc (qk : T2e) (ql : T2f) (qm : T2e) (n : Nat) : ∀ a, fnL (Zfa qk ql qm) true 56 Tryz.f56 [.ty 51] [9, 22, 4] (ZgJ qk ql qm n) a = ZhA qk ql qm n a := by
  intro a
  kernel_rfl
theorem ZpC {K : Zaa} (qk : T2e) (ql : T2f) (qm : T2e) (h0 : P2k K qk) (h1 : P2l K ql) (h2 : P2m K qm) : CallsOk (Zfa qk ql qm) (Zab C K) :=
  ⟨(Zae h0 (Zae h1 (Zae h2 Zaw))), Zav⟩
theorem ZkP {K : Zaa} (hK : ∀ args h, K 56 args h = none) (qk : T2e) (ql : T2f) (qm : T2e) (h0 : P2k K qk) (h1 : P2l K ql) (h2 : P2m K qm) (t : PX X (AK.tys [.ty 51]) → Option (PX X [9, 22, 4])) (h : ∀ a r, t a = some r → ∃ n, ZhA qk ql qm n a = some r) : Zag U (Zab C K) 56 ⟨true, [.ty 51], [9, 22, 4], t⟩ := by
  refine Zap (x := Zfa qk ql qm) (ak := [.ty 51]) (rts := [9, 22, 4]) (dir := true) ok (ZpC qk ql qm h0 h1 h2) hK Tryz.func56 ZoA fun a r hr => ?_
  obtain ⟨n, hn⟩ := h a r hr
  exact ⟨n, ZgJ qk ql qm n, (Zal (show Zak 0 (Zac Tryz.f56) = [] by kernel_rfl)), (Zsc qk ql qm n a).trans hn⟩
end Go.Tev.S1
namespace Go.Tev.S1
open Go.Abs Go.Proofs
def Zh4 (l : List Val) : Option Int := if Zah l ≤ B then some (Zah l : Int) else none
theorem ZnP {l : List Val} {r : Int} (h : Zh4 l = some r) : Zah l ≤ B ∧ r = Zah l := by
  unfold Zh4 at h
  split at h
  · rename_i h1; exact ⟨h1, (Option.some.inj h).symm⟩
  · cases h
theorem Zhs {l : List Val} (h : Zah l ≤ B) : Zh4 l = some (Zah l : Int) := if_pos h
theorem ZxY (l : List Val) : ∀ b : Nat, l.foldl (fun (b : Nat) v => b + v.tot) b = b + Zah l := by
  induction l with
  | nil => intro b; simp [Zah]
  | cons v l ih => intro b; simp only [List.foldl_cons, ih, Zah]; omega
theorem Zwd (l : List Val) (k : Nat) (h1 : Zah l < k + 1) (h2 : Zah l ≤ B) : Zhh (below Zah k Zh4) (l.length + 1) l = some (Zah l : Int) := by
  unfold Zhh Zei
  have hB : B = 2 ^ 36 := rfl
  refine (ZfB l (fun i (b : Nat) => ((b : Int), (i : Int), ())) (fun b v => .inl (b + v.tot)) (fun b => some (b : Int)) (fun i b => b = Zah (l.take i)) ?_ ?_ ?_ l (l.length + 1) 0 0 rfl (Nat.zero_le _) (by simp [Zah]) (Nat.lt_succ_self _)).trans ?_
  · intro i b v k' hv hlt hb
    have hmem := List.mem_of_getElem? hv
    have hs := Zc9 hmem
    have ht := Zla hv
    have hle := Zc7 l (i + 1)
    have hl := Zdd l
    have he := v.tot_eq
    simp only [ZeB, ZaS hv, Option.bind_some, Zb7 (show Zah v.l < k by omega), Zhs (show Zah v.l ≤ B by omega)]
    have hd : decide ((i : Int) < (l.length : Int)) = true := by simp; omega
    rw [hd]
    simp only [cond_true]
    have e1 : IntKind.i64.wrap ((1 : Int) + (v.tok.t.length : Int)) = ((1 + v.tok.t.length : Nat) : Int) := by rw [Zbx (by omega) (by omega)]; omega
    rw [e1]
    have e2 : IntKind.i64.wrap (((1 + v.tok.t.length : Nat) : Int) + (v.tok.u.length : Int)) = ((1 + v.tok.t.length + v.tok.u.length : Nat) : Int) := by rw [Zbx (by omega) (by omega)]; omega
    rw [e2]
    have e3 : IntKind.i64.wrap (((1 + v.tok.t.length + v.tok.u.length : Nat) : Int) + (Zah v.l : Int)) = (v.tot : Int) := by rw [Zbx (by omega) (by omega)]; omega
    rw [e3]
    have e4 : IntKind.i64.wrap ((b : Int) + (v.tot : Int)) = ((b + v.tot : Nat) : Int) := by rw [Zbx (by omega) (by omega)]; omega
    rw [e4, Za6 (by omega)]
  · intro i b v b' hv hb hs
    cases hs
    rw [Zla hv, hb]
  · intro b k' hb
    have hd : decide ((l.length : Int) < (l.length : Int)) = false := by simp
    simp only [ZeB, hd, cond_false]
  · rw [Zck (fun (b : Nat) (v : Val) => b + v.tot), ZxY]; simp
theorem YdO {K : Zaa} (hK : ∀ args h, K 32 args h = none) : Zag U (Zab C K) 32 ⟨true, [.ty 22], [3], Zh4⟩ :=
  Zb4 (U := U) (ak := [.ty 22]) (rts := [3]) Zah Zh4 fun k ih => ZkZ hK (below Zah k Zh4) ih (below Zah (k + 1) Zh4) fun a r h => by
    obtain ⟨h1, h2⟩ := ZbB h
    obtain ⟨h3, rfl⟩ := ZnP h2
    exact ⟨_, Zwd a k h1 h3⟩
end Go.Tev.S1
namespace Go.Tev.S1
open Go.Abs Go.Proofs
theorem ZsM (k : Int) : Zf3 0 k = some (ZaA k) := by
  unfold Zf3 ZaA
  by_cases h1 : k = 2
  · simp [h1]
  · by_cases h2 : k = 21
    · rw [h2]; rfl
    · by_cases h3 : k = 19
      · rw [h3]; rfl
      · by_cases h4 : k = 23
        · rw [h4]; rfl
        · have e1 : (k == 2) = false := by simpa using h1
          have e2 : (k == 21) = false := by simpa using h2
          have e3 : (k == 19) = false := by simpa using h3
          have e4 : (k == 23) = false := by simpa using h4
          simp [h1, h2, h3, h4, e1, e2, e3, e4]
theorem Zss (k : Int) : Zfi 0 k = some (ZaA k) := by
  unfold Zfi ZaA
  by_cases h1 : k = 2
  · rw [h1]; rfl
  · by_cases h2 : k = 21
    · rw [h2]; rfl
    · by_cases h3 : k = 19
      · rw [h3]; rfl
      · by_cases h4 : k = 23
        · rw [h4]; rfl
        · have e1 : (k == 2) = false := by simpa using h1
          have e2 : (k == 21) = false := by simpa using h2
          have e3 : (k == 19) = false := by simpa using h3
          have e4 : (k == 23) = false := by simpa using h4
          simp [h1, h2, h3, h4, e1, e2, e3, e4]
theorem ZzL {K : Zaa} (hK : ∀ args h, K 66 args h = none) : Zag U (Zab C K) 66 ⟨true, [.ty 5], [5], fun k => some (ZaA k)⟩ :=
  ZjJ hK _ fun a r h => by cases h; exact ⟨0, ZsM a⟩
theorem Zpc {K : Zaa} (hK : ∀ args h, K 47 args h = none) : Zag U (Zab C K) 47 ⟨true, [.ty 5], [5], fun k => some (ZaA k)⟩ :=
  ZiL hK _ fun a r h => by cases h; exact ⟨0, Zss a⟩
def Zsn (a : List Val × Int) : Option Fnd := if Zah a.1 ≤ B then some (Zqb a.2 a.1) else none
theorem ZpP {l : List Val} {cl : Int} (h : Zah l ≤ B) : Zsn (l, cl) = some (Zqb cl l) := if_pos h
theorem Zxs (cl : Int) (l : List Val) (k : Nat) (h1 : Zah l < k + 1) (h2 : Zah l ≤ B) : Zjj (fun k => some (ZaA k)) (below (fun a : List Val × Int => Zah a.1) k Zsn) (l.length + 1) l cl = some (Zqb cl l) := by
  have hB : B = 2 ^ 36 := rfl
  unfold Zjj
  refine (Zjw l (fun (b : List Val) => ((0 : Int), (0 : Int), false)) (fun b => ((Zfh b : Int), (Zjt b : Int), ZlY cl b)) (fun b v => .inl (b ++ [v])) (fun b => some (Zqb cl b)) (fun i b => b = l.take i) ?_ ?_ ?_ [] rfl _ (Nat.lt_succ_self _)).trans ?_
  · intro i b v k' hv hlt hb
    subst hb
    have hmem := List.mem_of_getElem? hv
    have hs := Zc9 hmem
    have hle := Zc7 l i
    have ht := Zla hv
    have hle2 := Zc7 l (i + 1)
    have hl := Zdd l
    have hd := Zhc (l.take i)
    have hn := Zhv (l.take i)
    have hd' := Zhc v.l
    have hn' := Zhv v.l
    simp (disch := omega) only [Ze6, ZaS hv, Option.bind_some, dlt hlt, cond_true, Bool.cond_self, Zb7, ZpP, Zbx]
    have hi : (i : Int) + 1 = ((i + 1 : Nat) : Int) := rfl
    rw [hi]
    simp only [ZlU, Ztp, ZsC, Zfh, Zjt, ZlY, Val.dep_eq v, Val.ntk_eq v, Val.bad_eq cl v, Zqb]
    have hp : decide ((v.l.length : Int) > 0) = decide (0 < v.l.length) := by simp
    rw [hp]
    by_cases hc : ZaA v.tok.k = 0
    · simp only [hc, beq_self_eq_true, cond_true, if_true]
      have hx : (((max (Zfh (l.take i)) (max 0 0) : Nat)) : Int) = (Zfh (l.take i) : Int) := by omega
      have hy : (((Zjt (l.take i) + (1 + 0) : Nat)) : Int) = (Zjt (l.take i) : Int) + 1 := by omega
      rw [hx, hy]
      cases e1 : (cl != 0) <;> cases e2 : (v.tok.k == cl) <;> cases e3 : decide (0 < v.l.length) <;> cases e4 : ZlY cl (l.take i) <;> rfl
    · have hc' : (ZaA v.tok.k == 0) = false := by simpa using hc
      have hc2 : (ZaA v.tok.k != 0) = true := by simpa using hc
      have hbel : below (fun a : List Val × Int => Zah a.1) k Zsn (v.l, ZaA v.tok.k) = some (Zqb (ZaA v.tok.k) v.l) := (Zb7 (sz := fun a : List Val × Int => Zah a.1) (show Zah v.l < k by omega)).trans (ZpP (by omega))
      simp (disch := omega) only [hc', hc2, cond_false, if_neg hc, hbel, Option.bind_some, Zqb, Zbx]
      have hx : (if (Zfh v.l : Int) + 1 > (Zfh (l.take i) : Int) then (Zfh v.l : Int) + 1 else (Zfh (l.take i) : Int)) = (((max (Zfh (l.take i)) (max (1 + Zfh v.l) 0) : Nat)) : Int) := by split <;> omega
      have hy : (Zjt (l.take i) : Int) + 1 + (Zjt v.l : Int) + 1 = (((Zjt (l.take i) + (2 + Zjt v.l + 0) : Nat)) : Int) := by omega
      rw [hx, hy]
      cases e1 : (cl != 0) <;> cases e2 : (v.tok.k == cl) <;> cases e3 : decide (0 < v.l.length) <;> cases e4 : ZlY cl (l.take i) <;> cases e5 : ZlY (ZaA v.tok.k) v.l <;> rfl
  · intro i b v b' hv hb hs
    cases hs
    rw [Za3 hv, hb]
  · intro b k' hb
    simp only [Ze6, ZnJ, cond_false]; rfl
  · rw [Zck (fun (b : List Val) (v : Val) => b ++ [v]), ZeJ]
theorem YdI {K : Zaa} (hK : ∀ args h, K 52 args h = none) (h67 : ∀ args h, K 66 args h = none) : Zag U (Zab C K) 52 ⟨true, [.ty 22, .ty 5], [84], Zsn⟩ :=
  Zb4 (U := U) (ak := [.ty 22, .ty 5]) (rts := [84]) (fun a : List Val × Int => Zah a.1) Zsn fun k ih => ZmB hK _ _ (ZzL h67) ih _ fun a r h => by
    obtain ⟨h1, h2⟩ := ZbB h
    unfold Zsn at h2
    split at h2
    · rename_i h3
      cases h2
      exact ⟨_, Zxs a.2 a.1 k h1 h3⟩
    · cases h2
def Zbk (l : List Val) : Int := if Zfh l > 16 then 20 else if Zjt l > 1500 then 4 else if ZlY 0 l then 8 else 0
def Ziy (l : List Val) : Option Int := if Zah l ≤ B then some (Zbk l) else none
theorem ZfG {l : List Val} (h : Zah l ≤ B) : Ziy l = some (Zbk l) := if_pos h
theorem Zvn (l : List Val) (h : Zah l ≤ B) : Zhe Zsn 0 l = some (Zbk l) := by
  unfold Zhe Zbk
  rw [ZpP h]
  simp only [Option.bind_some, Zqb]
  by_cases h1 : Zfh l > 16
  · have : decide ((Zfh l : Int) > 16) = true := by simp; omega
    rw [this, if_pos h1]; rfl
  · have : decide ((Zfh l : Int) > 16) = false := by simp; omega
    rw [this, if_neg h1]
    by_cases h2 : Zjt l > 1500
    · have : decide ((Zjt l : Int) > 1500) = true := by simp; omega
      rw [this, if_pos h2]; rfl
    · have : decide ((Zjt l : Int) > 1500) = false := by simp; omega
      rw [this, if_neg h2]
      cases ZlY 0 l <;> rfl
theorem ZfR {K : Zaa} (hK : ∀ args h, K 33 args h = none) (h43 : ∀ args h, K 52 args h = none) (h67 : ∀ args h, K 66 args h = none) : Zag U (Zab C K) 33 ⟨true, [.ty 22], [28], Ziy⟩ :=
  ZkV hK _ (YdI h43 h67) _ fun a r h => by
    unfold Ziy at h
    split at h
    · rename_i h3
      cases h
      exact ⟨0, Zvn a h3⟩
    · cases h
end Go.Tev.S1
namespace Go.Tev.S1
open Go.Abs Go.Proofs
def Zqo (l : List Val) : Option Int := if Zah l ≤ B then some (Zfh l : Int) else none
theorem Zo7 {l : List Val} (h : Zah l ≤ B) : Zqo l = some (Zfh l : Int) := if_pos h
theorem ZxD (l : List Val) (k : Nat) (h1 : Zah l < k + 1) (h2 : Zah l ≤ B) : Zhu (fun k => some (ZaA k)) (below Zah k Zqo) (l.length + 1) l = some (Zfh l : Int) := by
  have hB : B = 2 ^ 36 := rfl
  unfold Zhu
  refine (ZbO l (fun (b : List Val) => (Zfh b : Int)) (fun b v => .inl (b ++ [v])) (fun b => some (Zfh b : Int)) (fun i b => b = l.take i) ?_ ?_ ?_ [] rfl _ (Nat.lt_succ_self _)).trans ?_
  · intro i b v k' hv hlt hb
    subst hb
    have hmem := List.mem_of_getElem? hv
    have hs := Zc9 hmem
    have hle := Zc7 l i
    have hl := Zdd l
    have hd := Zhc (l.take i)
    have hd' := Zhc v.l
    have hbel : below Zah k Zqo v.l = some (Zfh v.l : Int) := (Zb7 (by omega)).trans (Zo7 (by omega))
    simp (disch := omega) only [ZeA, ZaS hv, Option.bind_some, dlt hlt, cond_true, hbel, Zbx]
    have hi : (i : Int) + 1 = ((i + 1 : Nat) : Int) := rfl
    rw [hi]
    simp only [ZlU, Zfh, Val.dep_eq v]
    by_cases hc : ZaA v.tok.k = 0
    · have hc2 : (ZaA v.tok.k != 0) = false := by simpa using hc
      simp only [hc2, cond_false, if_pos hc, Option.bind_some]
      congr 1; omega
    · have hc2 : (ZaA v.tok.k != 0) = true := by simpa using hc
      simp (disch := omega) only [hc2, cond_true, if_neg hc, hbel, Option.bind_some, Zbx]
      have hx : (if (1 : Int) + (Zfh v.l : Int) > (Zfh (l.take i) : Int) then (1 : Int) + (Zfh v.l : Int) else (Zfh (l.take i) : Int)) = (((max (Zfh (l.take i)) (max (1 + Zfh v.l) 0) : Nat)) : Int) := by split <;> omega
      rw [hx]
  · intro i b v b' hv hb hs
    cases hs
    rw [Za3 hv, hb]
  · intro b k' hb
    simp only [ZeA, ZnJ, cond_false]
  · rw [Zck (fun (b : List Val) (v : Val) => b ++ [v]), ZeJ]
theorem YaU {K : Zaa} (hK : ∀ args h, K 28 args h = none) (h54 : ∀ args h, K 47 args h = none) : Zag U (Zab C K) 28 ⟨true, [.ty 22], [3], Zqo⟩ :=
  Zb4 (U := U) (ak := [.ty 22]) (rts := [3]) Zah Zqo fun k ih => ZkY hK _ _ (Zpc h54) ih _ fun a r h => by
    obtain ⟨h1, h2⟩ := ZbB h
    unfold Zqo at h2
    split at h2
    · rename_i h3; cases h2; exact ⟨_, ZxD a k h1 h3⟩
    · cases h2
def Zsv (l : List Val) : Option (List Tok) := if Zah l ≤ B then some (ZmR l) else none
theorem ZtP {l : List Val} (h : Zah l ≤ B) : Zsv l = some (ZmR l) := if_pos h
theorem Zpt {b n : Nat} (h1 : n ≤ 2 ^ 40) (h2 : b ≤ 96) : room b n = some () := by
  unfold room
  have h3 : n * b ≤ 2 ^ 40 * 96 := Nat.mul_le_mul h1 h2
  rw [if_pos ⟨by omega, by omega⟩]
theorem Zx1 (l : List Val) (k : Nat) (h1 : Zah l < k + 1) (h2 : Zah l ≤ B) : Zfn (fun k => some (ZaA k)) (below Zah k Zsv) (l.length + 1) l = some (ZmR l) := by
  have hB : B = 2 ^ 36 := rfl
  unfold Zfn
  refine (ZbO l (fun (b : List Val) => ZmR b) (fun b v => .inl (b ++ [v])) (fun b => some (ZmR b)) (fun i b => b = l.take i) ?_ ?_ ?_ [] rfl _ (Nat.lt_succ_self _)).trans ?_
  · intro i b v k' hv hlt hb
    subst hb
    have hmem := List.mem_of_getElem? hv
    have hs := Zc9 hmem
    have hle := Zc7 l i
    have hl := Zdd l
    have hn := Zji (l.take i)
    have hn' := Zji v.l
    have hm := Zhv (l.take i)
    have hm' := Zhv v.l
    have hbel : below Zah k Zsv v.l = some (ZmR v.l) := (Zb7 (by omega)).trans (ZtP (by omega))
    have r1 : room 56 ((ZmR (l.take i)).length + [v.tok].length) = some () := Zpt (by simp; omega) (by decide)
    simp (disch := omega) only [ZdD, ZaS hv, Option.bind_some, dlt hlt, cond_true, hbel, r1, Zbx]
    have hi : (i : Int) + 1 = ((i + 1 : Nat) : Int) := rfl
    rw [hi]
    simp only [Zsk, ZmR, Val.tks_eq v]
    by_cases hc : ZaA v.tok.k = 0
    · have hc2 : (ZaA v.tok.k != 0) = false := by simpa using hc
      simp only [hc2, cond_false, if_pos hc, Option.bind_some, List.append_nil]
    · have hc2 : (ZaA v.tok.k != 0) = true := by simpa using hc
      have r2 : room 56 ((ZmR (l.take i) ++ [v.tok]).length + (ZmR v.l).length) = some () := Zpt (by simp; omega) (by decide)
      have r3 : room 56 ((ZmR (l.take i) ++ [v.tok] ++ ZmR v.l).length + [Tok.mk (ZaA v.tok.k) [] (0 : Int) [] false].length) = some () := Zpt (by simp; omega) (by decide)
      simp only [hc2, cond_true, if_neg hc, hbel, Option.bind_some, r2, r3]
      simp
  · intro i b v b' hv hb hs
    cases hs
    rw [Za3 hv, hb]
  · intro b k' hb
    simp only [ZdD, ZnJ, cond_false]
  · rw [Zck (fun (b : List Val) (v : Val) => b ++ [v]), ZeJ]
theorem ZyV {K : Zaa} (hK : ∀ args h, K 49 args h = none) (h54 : ∀ args h, K 47 args h = none) : Zag U (Zab C K) 49 ⟨true, [.ty 22], [72], Zsv⟩ :=
  Zb4 (U := U) (ak := [.ty 22]) (rts := [72]) Zah Zsv fun k ih => ZiK hK _ _ (Zpc h54) ih _ fun a r h => by
    obtain ⟨h1, h2⟩ := ZbB h
    unfold Zsv at h2
    split at h2
    · rename_i h3; cases h2; exact ⟨_, Zx1 a k h1 h3⟩
    · cases h2
def Zip (a : List Val × Int) : Option Bool := if Zah a.1 ≤ B then some (!ZlY a.2 a.1) else none
theorem Zn0 {l : List Val} {c : Int} (h : Zah l ≤ B) : Zip (l, c) = some (!ZlY c l) := if_pos h
theorem Zsr (c : Int) (l : List Val) (k : Nat) (h1 : Zah l < k + 1) (h2 : Zah l ≤ B) : Ze5 (fun k => some (ZaA k)) (below (fun a : List Val × Int => Zah a.1) k Zip) (l.length + 1) l c = some (!ZlY c l) := by
  have hB : B = 2 ^ 36 := rfl
  unfold Ze5
  refine (ZbO l (fun (_ : Unit) => false) (fun b v => if v.bad c then .inr (some false) else .inl ()) (fun b => some true) (fun i b => True) ?_ ?_ ?_ () trivial _ (Nat.lt_succ_self _)).trans ?_
  · intro i b v k' hv hlt hb
    have hmem := List.mem_of_getElem? hv
    have hs := Zc9 hmem
    have hl := Zdd l
    have hbel : below (fun a : List Val × Int => Zah a.1) k Zip (v.l, ZaA v.tok.k) = some (!ZlY (ZaA v.tok.k) v.l) := (Zb7 (sz := fun a : List Val × Int => Zah a.1) (show Zah v.l < k by omega)).trans (Zn0 (by omega))
    have hp : decide ((v.l.length : Int) > 0) = decide (0 < v.l.length) := by simp
    simp (disch := omega) only [Zdz, ZaS hv, Option.bind_some, dlt hlt, cond_true, hbel, Zbx]
    have hi : (i : Int) + 1 = ((i + 1 : Nat) : Int) := rfl
    rw [hi, Val.bad_eq]
    by_cases hc : ZaA v.tok.k = 0
    · simp only [hc, beq_self_eq_true, cond_true, Option.bind_some, hp]
      cases e1 : (c != 0) <;> cases e2 : (v.tok.k == c) <;> cases e3 : decide (0 < v.l.length) <;> first | rfl | simp [e2]
    · have hc' : (ZaA v.tok.k == 0) = false := by simpa using hc
      have hc2 : (ZaA v.tok.k != 0) = true := by simpa using hc
      simp only [hc', hc2, cond_false, hbel, Option.bind_some]
      cases e1 : (c != 0) <;> cases e2 : (v.tok.k == c) <;> cases e5 : ZlY (ZaA v.tok.k) v.l <;> rw [e5] at hbel <;> first | rfl | simp [e2, hbel]
  · intro i b v b' hv hb hs
    trivial
  · intro b k' hb
    simp only [Zdz, ZnJ, cond_false]
  · clear h1 h2
    induction l with
    | nil => rfl
    | cons v l ih =>
      simp only [Zm2, ZlY]
      cases v.bad c with
      | true => rfl
      | false => simpa using ih
theorem ZyC {K : Zaa} (hK : ∀ args h, K 50 args h = none) (h54 : ∀ args h, K 47 args h = none) : Zag U (Zab C K) 50 ⟨true, [.ty 22, .ty 5], [4], Zip⟩ :=
  Zb4 (U := U) (ak := [.ty 22, .ty 5]) (rts := [4]) (fun a : List Val × Int => Zah a.1) Zip fun k ih => Zjg hK _ _ (Zpc h54) ih _ fun a r h => by
    obtain ⟨h1, h2⟩ := ZbB h
    unfold Zip at h2
    split at h2
    · rename_i h3; cases h2; exact ⟨_, Zsr a.2 a.1 k h1 h3⟩
    · cases h2
theorem Zvp (l : List Val) (h : Zah l ≤ B) : ZfU Zqo Zsv Zip 0 l = some (Zbk l) := by
  unfold ZfU Zbk
  rw [Zo7 h, ZtP h, Zn0 h]
  simp only [Option.bind_some, Zji]
  by_cases h1 : Zfh l > 16
  · have : decide ((Zfh l : Int) > 16) = true := by simp; omega
    rw [this, if_pos h1]; rfl
  · have : decide ((Zfh l : Int) > 16) = false := by simp; omega
    rw [this, if_neg h1]
    by_cases h2 : Zjt l > 1500
    · have : decide ((Zjt l : Int) > 1500) = true := by simp; omega
      rw [this, if_pos h2]; rfl
    · have : decide ((Zjt l : Int) > 1500) = false := by simp; omega
      rw [this, if_neg h2]
      cases ZlY 0 l <;> rfl
theorem Zvq {K : Zaa} (hK : ∀ args h, K 30 args h = none) (h33 : ∀ args h, K 28 args h = none) (h46 : ∀ args h, K 49 args h = none) (h47 : ∀ args h, K 50 args h = none) (h54 : ∀ args h, K 47 args h = none) : Zag U (Zab C K) 30 ⟨true, [.ty 22], [3], Ziy⟩ :=
  Zkf hK _ _ _ (YaU h33 h54) (ZyV h46 h54) (ZyC h47 h54) _ fun a r h => by
    unfold Ziy at h
    split at h
    · rename_i h3; cases h; exact ⟨0, Zvp a h3⟩
    · cases h
end Go.Tev.S1
namespace Go.Tev
open Go.Abs
def ZmS (b : UInt8) : UInt8 := if 65 ≤ b.toNat ∧ b.toNat ≤ 90 then b + 32 else b
def ZdJ (l : List UInt8) : List UInt8 := l.map ZmS
def Za1 (l : List UInt8) : Bool := (decide ((l.length : Int) > 2) && decide ((l.length : Int) ≤ 64)) && (l.take 2 == [45, 45])
def Val.ref (v : Val) : Bool := v.tok.k == 2 && (ZdJ v.tok.t == [118, 97, 114])
mutual
def Val.hasv : Val → Bool
  | .mk t l => (t.k == 2 && (ZdJ t.t == [118, 97, 114])) || ZaW l
def ZaW : List Val → Bool
  | [] => false
  | v :: r => v.hasv || ZaW r
end
theorem Val.hasv_eq (v : Val) : v.hasv = (v.ref || ZaW v.l) := by cases v; rfl
theorem Zkl (a b : List Val) : ZaW (a ++ b) = (ZaW a || ZaW b) := by
  induction a with
  | nil => simp [ZaW]
  | cons v a ih => simp [ZaW, ih, Bool.or_assoc]
def sp (v : Val) : Bool := v.tok.k == 13
def spL : List Val → List Val
  | [] => []
  | v :: r => if sp v then spL r else v :: r
def trR (l : List Val) : List Val := (spL l.reverse).reverse
def trL (l : List Val) : List Val := trR (spL l)
theorem ZtK (l : List Val) : Zah l.reverse = Zah l := by
  induction l with
  | nil => rfl
  | cons v l ih => simp [ZeR, Zah, ih]; omega
theorem ZlQ (l : List Val) : Zah (spL l) ≤ Zah l := by
  induction l with
  | nil => exact Nat.le_refl _
  | cons v r ih => unfold spL; split <;> simp only [Zah] <;> omega
theorem YbA (l : List Val) : Zah (trL l) ≤ Zah l := by
  unfold trL trR
  rw [ZtK]
  have h1 := ZlQ (spL l).reverse
  rw [ZtK] at h1
  have h2 := ZlQ l
  omega
def Zax (l : List Val) : List UInt8 × List Val × Bool :=
  match spL l with
  | [] => ([], [], false)
  | x :: r => if x.tok.k = 1 ∧ Za1 x.tok.t = true then
      (match spL r with
      | [] => (x.tok.t, [], false)
      | y :: s => if y.tok.k = 18 then (x.tok.t, trL s, true) else ([], [], false))
    else ([], [], false)
theorem ZiX (l : List Val) : Zah (Zax l).2.1 ≤ Zah l := by
  unfold Zax
  have h1 := ZlQ l
  cases e : spL l with
  | nil => simp [Zah]
  | cons x r =>
    rw [e] at h1
    simp only [Zah] at h1
    have h2 := ZlQ r
    simp only
    split
    · cases e2 : spL r with
      | nil => simp [Zah]
      | cons y s =>
        rw [e2] at h2
        simp only [Zah] at h2
        simp only
        split
        · have := YbA s
          simp only; omega
        · simp [Zah]
    · simp [Zah]
end Go.Tev
namespace Go.Tev.S1
open Go.Abs Go.Proofs
theorem kf {K : Zaa} (hK : Zcp K) (f : Nat) (h : f ∉ [8, 37, 43, 62, 73]) : ∀ args g, K f args g = none := fun args g => hK f args g h
theorem ZmT (p q : List UInt8) : ZaJ 0 p q = some (p.take q.length == q) := by
  unfold ZaJ
  by_cases h : q.length ≤ p.length
  · have : decide ((p.length : Int) ≥ (q.length : Int)) = true := by simp; omega
    simp only [this, cond_true, Zsi]
    rw [if_pos (by omega)]
    simp
  · have : decide ((p.length : Int) ≥ (q.length : Int)) = false := by simp; omega
    simp only [this, cond_false, Option.bind_some]
    congr 1
    symm
    rw [beq_eq_false_iff_ne]
    intro he
    have := congrArg List.length he
    simp at this
    omega
theorem Zth (p : List UInt8) : Ze8 (fun a => some (a.1.take a.2.length == a.2)) 0 p = some (Za1 p) := by
  unfold Ze8 Za1
  simp only [Option.bind_some, List.length_cons, List.length_nil]
  cases e1 : (p.take 2 == [45, 45]) <;> cases e2 : decide ((p.length : Int) > 2) <;> cases e3 : decide ((p.length : Int) ≤ 64) <;> rfl
theorem Znb (p : List UInt8) : Ze4 0 p = some (Za1 p) := by
  unfold Ze4 Za1
  simp only [Option.bind_some]
  by_cases h : (decide ((p.length : Int) > 2) && decide ((p.length : Int) ≤ 64)) = true
  · have h' := h
    rw [Bool.and_eq_true] at h'
    rw [h]
    simp only [h'.1, h'.2, cond_true, Zsi, Bool.true_and]
    have := of_decide_eq_true h'.1
    rw [if_pos (by omega)]
    rfl
  · have h2 : (bif decide ((p.length : Int) > 2) then decide ((p.length : Int) ≤ 64) else false) = false := by
      cases e2 : decide ((p.length : Int) > 2) <;> cases e3 : decide ((p.length : Int) ≤ 64) <;> simp [e2, e3] at h ⊢
    rw [Bool.not_eq_true] at h
    rw [h2, h]
    rfl
theorem Zrn {K : Zaa} (hK : Zcp K) : Zag U (Zab C K) 89 ⟨true, [.ty 9, .ty 9], [4], fun a => some (a.1.take a.2.length == a.2)⟩ :=
  ZcJ (kf hK 89 (by decide)) _ fun a r h => by cases h; exact ⟨0, ZmT a.1 a.2⟩
theorem ZsR {K : Zaa} (hK : Zcp K) : Zag U (Zab C K) 72 ⟨true, [.ty 9, .ty 9], [4], fun a => some (a.1.take a.2.length == a.2)⟩ :=
  ZfV (kf hK 72 (by decide)) _ (Zrn hK) _ fun a r h => by cases h; exact ⟨0, rfl⟩
theorem Zub {K : Zaa} (hK : Zcp K) : Zag U (Zab C K) 61 ⟨true, [.ty 9], [4], fun a => some (Za1 a)⟩ :=
  ZiS (kf hK 61 (by decide)) _ (ZsR hK) _ fun a r h => by cases h; exact ⟨0, Zth a⟩
theorem Ztk {K : Zaa} (hK : Zcp K) : Zag U (Zab C K) 48 ⟨true, [.ty 9], [4], fun a => some (Za1 a)⟩ :=
  Zje (kf hK 48 (by decide)) _ fun a r h => by cases h; exact ⟨0, Znb a⟩
def YbJ (l : List UInt8) : Option (List UInt8) := if l.length ≤ B then some (ZdJ l) else none
theorem Zv7 {l : List UInt8} (h : l.length ≤ B) : YbJ l = some (ZdJ l) := if_pos h
def half (l b : List UInt8) : List Int := ZeN (b ++ l.drop b.length)
theorem Zjs {l : List UInt8} {i : Nat} {v : UInt8} (hv : l[i]? = some v) : (half l (ZdJ (l.take i)))[i]? = some (v.toNat : Int) := by
  have hlt : i < l.length := (List.getElem?_eq_some_iff.1 hv).1
  simp only [half, ZeN, ZdJ, List.length_map, List.length_take, List.getElem?_map]
  rw [List.getElem?_append_right (by simp; omega)]
  simp only [List.length_map, List.length_take, List.getElem?_drop, Nat.min_eq_left (Nat.le_of_lt hlt)]
  rw [Nat.sub_self, Nat.add_zero, hv]; rfl
theorem ZiE {l : List UInt8} {i : Nat} (h : i ≤ l.length) : (half l (ZdJ (l.take i))).length = l.length := by
  simp [half, ZeN, ZdJ]; omega
theorem Zlz {l : List UInt8} {i : Nat} {v : UInt8} (hv : l[i]? = some v) : half l (ZdJ (l.take (i + 1))) = (half l (ZdJ (l.take i))).set i ((ZmS v).toNat : Int) := by
  have hlt : i < l.length := (List.getElem?_eq_some_iff.1 hv).1
  apply List.ext_getElem?
  intro j
  rw [Za3 hv]
  simp only [half, ZeN, ZdJ, List.map_append, List.map_cons, List.map_nil, List.length_append, List.length_map, List.length_take, Nat.min_eq_left (Nat.le_of_lt hlt), List.length_cons, List.length_nil]
  have hd : l.drop i = v :: l.drop (i + 1) := by
    rw [List.drop_eq_getElem_cons hlt]
    have := List.getElem?_eq_getElem hlt
    rw [hv] at this
    cases this; rfl
  rw [hd]
  simp only [List.append_assoc, List.cons_append, List.nil_append, List.map_append, List.map_cons, List.map_map]
  have hl : (List.map ((fun c => ((UInt8.toNat c : Nat) : Int)) ∘ ZmS) (List.take i l)).length = i := by simp; omega
  rw [List.set_append_right _ _ (by rw [hl]; exact Nat.le_refl _), hl, Nat.sub_self]
  rfl
theorem ZiD {l : List UInt8} {i : Nat} {v : UInt8} (hv : l[i]? = some v) (h : ZmS v = v) : half l (ZdJ (l.take (i + 1))) = half l (ZdJ (l.take i)) := by
  rw [Zlz hv, h]
  have h2 := Zjs hv
  apply List.ext_getElem?
  intro j
  by_cases hj : i = j
  · subst hj
    rw [List.getElem?_set_self (by rw [ZiE]; exact (List.getElem?_eq_some_iff.1 hv).1; exact Nat.le_of_lt (List.getElem?_eq_some_iff.1 hv).1), h2]
  · rw [List.getElem?_set_ne hj]
theorem ZkA (l : List UInt8) : ZjD ((half l (ZdJ l)).take l.length) = ZdJ l := by
  have : half l (ZdJ l) = ZeN (ZdJ l) := by
    unfold half
    rw [List.drop_eq_nil_of_le (by simp [ZdJ]), List.append_nil]
  rw [this, List.take_of_length_le (by simp [ZeN, ZdJ])]
  unfold ZjD ZeN
  rw [List.map_map]
  conv => rhs; rw [← List.map_id (ZdJ l)]
  apply List.map_congr_left
  intro c _
  simp
theorem Zyi {v : UInt8} (h : 65 ≤ v.toNat ∧ v.toNat ≤ 90) : ((ZmS v).toNat : Int) = (v.toNat : Int) + 32 := by
  unfold ZmS
  rw [if_pos h, UInt8.toNat_add]
  have : (32 : UInt8).toNat = 32 := rfl
  rw [this]; omega
theorem Zx4 {v : UInt8} (h : ¬ (65 ≤ v.toNat ∧ v.toNat ≤ 90)) : ZmS v = v := if_neg h
theorem YcC {n : Int} (h1 : 0 ≤ n) (h2 : n < 256) : IntKind.u8.wrap n = n := by
  simp [IntKind.wrap, IntKind.signed, IntKind.bits]
  omega
theorem ZuZ (l : List UInt8) (h2 : l.length ≤ B) : Zge (l.length + 1) l = some (ZdJ l) := by
  have hB : B = 2 ^ 36 := rfl
  unfold Zge
  refine ((congrArg (fun z => Zei _ _ _ z) (show ZeN l = half l (ZdJ (l.take 0)) by simp [half, ZdJ])).trans (Zf1 l (half l) (fun b v => .inl (b ++ [ZmS v])) (fun b => some (ZjD ((half l b).take l.length))) (fun i b => b = ZdJ (l.take i)) ?_ ?_ ?_ [] rfl _ (Nat.lt_succ_self _))).trans ?_
  · intro i b v k' hv hlt hb
    subst hb
    have hlen := ZiE (l := l) (i := i) (by omega)
    have hn := v.toNat_lt
    have hg : (if 0 ≤ (i : Int) ∧ (i : Int) < l.length ∧ (i : Int) < (half l (ZdJ (l.take i))).length then some (i : Int).toNat else none) = some i := by
      rw [if_pos (by omega)]; rfl
    simp (disch := omega) only [Zec, dlt hlt, cond_true, hg, Option.bind_some, Zjs hv, Zbx]
    have hi : (i : Int) + 1 = ((i + 1 : Nat) : Int) := rfl
    rw [hi]
    have hsn : half l (ZdJ (l.take i) ++ [ZmS v]) = half l (ZdJ (l.take (i + 1))) := by rw [Za3 hv]; simp [ZdJ]
    rw [hsn]
    by_cases hc : 65 ≤ v.toNat ∧ v.toNat ≤ 90
    · have e1 : decide ((v.toNat : Int) ≥ 65) = true := by simp; omega
      have e2 : decide ((v.toNat : Int) ≤ 90) = true := by simp; omega
      have e3 : i < (half l (ZdJ (l.take i))).length := by omega
      simp only [e1, e2, cond_true, hg, Option.bind_some, if_pos e3]
      rw [Zlz hv, Zyi hc]
      congr 3
      rw [YcC (n := (v.toNat : Int) + 97) (by omega) (by omega)]
      rw [YcC (by omega) (by omega)]
      omega
    · have e1 : (bif decide ((v.toNat : Int) ≥ 65) then decide ((v.toNat : Int) ≤ 90) else false) = false := by
        cases a : decide ((v.toNat : Int) ≥ 65)
        · rfl
        · simp at a ⊢; omega
      simp only [e1, cond_false, Option.bind_some]
      rw [ZiD hv (Zx4 hc)]
  · intro i b v b' hv hb hs
    cases hs
    rw [Za3 hv, hb]; simp [ZdJ]
  · intro b k' hb
    rw [List.take_length] at hb
    subst hb
    have := ZiE (l := l) (i := l.length) (Nat.le_refl _)
    rw [List.take_length] at this
    simp only [Zec, ZnJ, cond_false, this, Nat.le_refl, if_true, Option.bind_some]
  · rw [Zck (fun (b : List UInt8) (v : UInt8) => b ++ [ZmS v])]
    have : ∀ (l b : List UInt8), l.foldl (fun (b : List UInt8) (v : UInt8) => b ++ [ZmS v]) b = b ++ ZdJ l := by
      intro l
      induction l with
      | nil => intro b; simp [ZdJ]
      | cons v l ih => intro b; simp only [List.foldl_cons, ih]; simp [ZdJ]
    rw [this, List.nil_append, ZkA]
theorem Ycu {K : Zaa} (hK : Zcp K) : Zag U (Zab C K) 41 ⟨true, [.ty 9], [9], YbJ⟩ :=
  ZjY (kf hK 41 (by decide)) _ fun a r h => by
    unfold YbJ at h
    split at h
    · rename_i h3; cases h; exact ⟨_, ZuZ a h3⟩
    · cases h
end Go.Tev.S1
namespace Go.Tev.S1
open Go.Abs Go.Proofs
theorem Zou (l : List UInt8) (h2 : l.length ≤ B) : Zgd (l.length + 1) l = some (ZdJ l) := by
  have hB : B = 2 ^ 36 := rfl
  unfold Zgd
  refine ((congrArg (fun z => Zei _ _ _ z) (show ZeN l = half l (ZdJ (l.take 0)) by simp [half, ZdJ])).trans (Zf1 l (half l) (fun b v => .inl (b ++ [ZmS v])) (fun b => some (ZjD ((half l b).take l.length))) (fun i b => b = ZdJ (l.take i)) ?_ ?_ ?_ [] rfl _ (Nat.lt_succ_self _))).trans ?_
  · intro i b v k' hv hlt hb
    subst hb
    have hlen := ZiE (l := l) (i := i) (by omega)
    have hn := v.toNat_lt
    have hg : (if 0 ≤ (i : Int) ∧ (i : Int) < l.length ∧ (i : Int) < (half l (ZdJ (l.take i))).length then some (i : Int).toNat else none) = some i := by
      rw [if_pos (by omega)]; rfl
    simp (disch := omega) only [Zd9, dlt hlt, cond_true, hg, Option.bind_some, Zjs hv, Zbx]
    have hi : (i : Int) + 1 = ((i + 1 : Nat) : Int) := rfl
    rw [hi]
    have hsn : half l (ZdJ (l.take i) ++ [ZmS v]) = half l (ZdJ (l.take (i + 1))) := by rw [Za3 hv]; simp [ZdJ]
    rw [hsn]
    have e3 : i < (half l (ZdJ (l.take i))).length := by omega
    by_cases hc : 65 ≤ v.toNat ∧ v.toNat ≤ 90
    · have e1 : decide ((v.toNat : Int) ≥ 65) = true := by simp; omega
      have e2 : decide ((v.toNat : Int) ≤ 90) = true := by simp; omega
      simp only [e1, e2, cond_true, hg, Option.bind_some, if_pos e3, Zjs hv]
      rw [Zlz hv, Zyi hc]
      congr 3
      rw [YcC (by omega) (by omega)]
    · rw [ZiD hv (Zx4 hc)]
      cases e1 : decide ((v.toNat : Int) ≥ 65)
      · simp only [cond_false, Option.bind_some]
      · have e2 : decide ((v.toNat : Int) ≤ 90) = false := by simp at e1 ⊢; omega
        simp only [cond_true, hg, Option.bind_some, Zjs hv, e2, cond_false]
  · intro i b v b' hv hb hs
    cases hs
    rw [Za3 hv, hb]; simp [ZdJ]
  · intro b k' hb
    rw [List.take_length] at hb
    subst hb
    have := ZiE (l := l) (i := l.length) (Nat.le_refl _)
    rw [List.take_length] at this
    simp only [Zd9, ZnJ, cond_false, this, Nat.le_refl, if_true, Option.bind_some]
  · rw [Zck (fun (b : List UInt8) (v : UInt8) => b ++ [ZmS v])]
    have : ∀ (l b : List UInt8), l.foldl (fun (b : List UInt8) (v : UInt8) => b ++ [ZmS v]) b = b ++ ZdJ l := by
      intro l
      induction l with
      | nil => intro b; simp [ZdJ]
      | cons v l ih => intro b; simp only [List.foldl_cons, ih]; simp [ZdJ]
    rw [this, List.nil_append, ZkA]
theorem Yb8 {K : Zaa} (hK : Zcp K) : Zag U (Zab C K) 51 ⟨true, [.ty 9], [9], YbJ⟩ :=
  ZjX (kf hK 51 (by decide)) _ fun a r h => by
    unfold YbJ at h
    split at h
    · rename_i h3; cases h; exact ⟨_, Zou a h3⟩
    · cases h
theorem Ydw : ∀ (c : Nat), c = 118 ∨ c = 97 ∨ c = 114 → ∀ (n : Nat), n < 256 → ((IntKind.u8.wrap (BitVec.ofInt 8 (n : Int) ||| BitVec.ofInt 8 32).toNat) == (c : Int)) = decide ((ZmS (UInt8.ofNat n)).toNat = c) := by
  intro c hc
  rcases hc with rfl | rfl | rfl <;> decide +kernel
theorem Ztn {b : UInt8} {c : UInt8} (hc : c.toNat = 118 ∨ c.toNat = 97 ∨ c.toNat = 114) : ((IntKind.u8.wrap (BitVec.ofInt (IntKind.u8).bits (b.toNat : Int) ||| BitVec.ofInt (IntKind.u8).bits (32 : Int)).toNat) == (c.toNat : Int)) = (ZmS b == c) := by
  have h := Ydw c.toNat hc b.toNat b.toNat_lt
  rw [UInt8.ofNat_toNat] at h
  refine h.trans ?_
  rw [Bool.eq_iff_iff, decide_eq_true_iff, beq_iff_eq]
  exact ⟨UInt8.toNat_inj.1, fun h => h ▸ rfl⟩
theorem Zvf (v : Val) : Zhz 0 v = some v.ref := by
  unfold Zhz Val.ref
  cases e : (v.tok.k == 2)
  · rfl
  · simp only [cond_true, Option.bind_some, Bool.true_and]
    have h1 := fun b => Ztn (b := b) (c := 118) (Or.inl rfl)
    have h2 := fun b => Ztn (b := b) (c := 97) (Or.inr (Or.inl rfl))
    have h3 := fun b => Ztn (b := b) (c := 114) (Or.inr (Or.inr rfl))
    have c1 : (((118 : UInt8).toNat : Nat) : Int) = 118 := rfl
    have c2 : (((97 : UInt8).toNat : Nat) : Int) = 97 := rfl
    have c3 : (((114 : UInt8).toNat : Nat) : Int) = 114 := rfl
    rw [c1] at h1
    rw [c2] at h2
    rw [c3] at h3
    rcases v.tok.t with _ | ⟨a, _ | ⟨b, _ | ⟨c, _ | ⟨d, r⟩⟩⟩⟩
    · rfl
    · have : (ZdJ [a] == [118, 97, 114]) = false := by simp [ZdJ]
      rw [this]; rfl
    · have : (ZdJ [a, b] == [118, 97, 114]) = false := by simp [ZdJ]
      rw [this]; rfl
    · have e0 : (([a, b, c].length : Int) == 3) = true := rfl
      have g0 : ZdC [a, b, c] 0 = some a := rfl
      have g1 : ZdC [a, b, c] 1 = some b := rfl
      have g2 : ZdC [a, b, c] 2 = some c := rfl
      simp only [e0, g0, g1, g2, cond_true, Option.bind_some, h1]
      have hl : (ZdJ [a, b, c] == [118, 97, 114]) = (ZmS a == 118 && (ZmS b == 97 && ZmS c == 114)) := by
        simp only [ZdJ, List.map_cons, List.map_nil, List.cons_beq_cons, Bool.and_true, beq_self_eq_true]
      rw [hl]
      cases e1 : (ZmS a == 118)
      · rfl
      · simp only [cond_true, Option.bind_some, h2]
        cases e2 : (ZmS b == 97)
        · rfl
        · simp only [cond_true, Option.bind_some, h3]
          rfl
    · have e0 : (((a :: b :: c :: d :: r).length : Int) == 3) = false := by
        simp only [List.length_cons, beq_eq_false_iff_ne]; omega
      have : (ZdJ (a :: b :: c :: d :: r) == [118, 97, 114]) = false := by simp [ZdJ]
      rw [e0, this]; rfl
theorem ZsO {K : Zaa} (hK : Zcp K) : Zag U (Zab C K) 55 ⟨true, [.ty 51], [4], fun v => some v.ref⟩ :=
  ZkI (kf hK 55 (by decide)) _ fun a r h => by cases h; exact ⟨0, Zvf a⟩
def ZsX (l : List Val) : Option Bool := if Zah l ≤ B then some (ZaW l) else none
theorem ZjG {l : List Val} (h : Zah l ≤ B) : ZsX l = some (ZaW l) := if_pos h
theorem Zs4 (l : List Val) (k : Nat) (h1 : Zah l < k + 1) (h2 : Zah l ≤ B) : Zi5 YbJ (below Zah k ZsX) (l.length + 1) l = some (ZaW l) := by
  have hB : B = 2 ^ 36 := rfl
  unfold Zi5
  refine (ZbO l (fun (_ : Unit) => false) (fun b v => if v.hasv then .inr (some true) else .inl ()) (fun b => some false) (fun i b => True) ?_ ?_ ?_ () trivial _ (Nat.lt_succ_self _)).trans ?_
  · intro i b v k' hv hlt hb
    have hmem := List.mem_of_getElem? hv
    have hs := Zc9 hmem
    have hm := ZjK hmem
    have he := v.tot_eq
    have hl := Zdd l
    have hbel : below Zah k ZsX v.l = some (ZaW v.l) := (Zb7 (show Zah v.l < k by omega)).trans (ZjG (by omega))
    simp (disch := omega) only [Zfb, ZaS hv, Option.bind_some, dlt hlt, cond_true, hbel, Zbx, Zv7 (show v.tok.t.length ≤ B by omega)]
    have hi : (i : Int) + 1 = ((i + 1 : Nat) : Int) := rfl
    rw [hi, Val.hasv_eq, Val.ref]
    cases e1 : (v.tok.k == 2) <;> cases e2 : (ZdJ v.tok.t == [118, 97, 114]) <;> cases e5 : ZaW v.l <;> rw [e5] at hbel <;> first | rfl | simp [e2, hbel]
  · intro i b v b' hv hb hs
    trivial
  · intro b k' hb
    simp only [Zfb, ZnJ, cond_false]
  · clear h1 h2
    induction l with
    | nil => rfl
    | cons v l ih =>
      simp only [Zm2, ZaW]
      cases v.hasv with
      | true => rfl
      | false => simpa using ih
theorem Zz6 {K : Zaa} (hK : Zcp K) : Zag U (Zab C K) 31 ⟨true, [.ty 22], [4], ZsX⟩ :=
  Zb4 (U := U) (ak := [.ty 22]) (rts := [4]) Zah ZsX fun k ih => ZlM (kf hK 31 (by decide)) _ _ (Yb8 hK) ih _ fun a r h => by
    obtain ⟨h1, h2⟩ := ZbB h
    unfold ZsX at h2
    split at h2
    · rename_i h3; cases h2; exact ⟨_, Zs4 a k h1 h3⟩
    · cases h2
def Zgr : List Val → Int → Int
  | [], _ => -1
  | v :: r, i => if v.hasv then i else Zgr r (i + 1)
theorem Zw9 (l : List Val) : ∀ i : Nat, decide (Zgr l (i : Int) ≥ 0) = ZaW l := by
  induction l with
  | nil => intro i; rfl
  | cons v r ih =>
    intro i
    by_cases h : v.hasv = true
    · have e : Zgr (v :: r) (i : Int) = i := by simp only [Zgr, h, if_true]
      rw [e, ZaW, h]; simp
    · have e : Zgr (v :: r) (i : Int) = Zgr r ((i + 1 : Nat) : Int) := by simp only [Zgr, if_neg h]; rfl
      rw [e, ih (i + 1), ZaW, (Bool.not_eq_true _).mp h, Bool.false_or]
def sV1 (k : Nat) (v : Val) : Option Bool := if Zah v.l < k ∧ v.tot ≤ B then some v.hasv else none
def sV2 (k : Nat) (l : List Val) : Option Int := if Zah l < k + 1 ∧ Zah l ≤ B then some (Zgr l 0) else none
def sV3 (k : Nat) (l : List Val) : Option Bool := if Zah l < k + 1 ∧ Zah l ≤ B then some (ZaW l) else none
theorem Yb6 (k : Nat) (v : Val) (h1 : Zah v.l < k) (h2 : v.tot ≤ B) : Zgi YbJ (below Zah k ZsX) 0 v = some v.hasv := by
  have he := v.tot_eq
  have hbel : below Zah k ZsX v.l = some (ZaW v.l) := (Zb7 (show Zah v.l < k by omega)).trans (ZjG (by omega))
  unfold Zgi
  simp only [Zv7 (show v.tok.t.length ≤ B by omega), hbel, Option.bind_some]
  rw [Val.hasv_eq, Val.ref]
  cases e1 : (v.tok.k == 2) <;> cases e2 : (ZdJ v.tok.t == [118, 97, 114]) <;> cases e5 : ZaW v.l <;> first | rfl | simp [e2]
theorem YcN (k : Nat) (l : List Val) (h1 : Zah l < k + 1) (h2 : Zah l ≤ B) : Zat (sV1 k) (l.length + 1) l = some (Zgr l 0) := by
  have hB : B = 2 ^ 36 := rfl
  unfold Zat
  refine (ZbO l (fun (_ : Nat) => (0 : Int)) (fun b v => if v.hasv then .inr (some (b : Int)) else .inl (b + 1)) (fun b => some (-1 : Int)) (fun i b => b = i) ?_ ?_ ?_ 0 rfl _ (Nat.lt_succ_self _)).trans ?_
  · intro i b v k' hv hlt hb
    subst hb
    have hmem := List.mem_of_getElem? hv
    have hs := Zc9 hmem
    have hm := ZjK hmem
    have hl := Zdd l
    have h3 : sV1 k (Val.mk v.tok v.l) = some v.hasv := by rw [Val.eta]; exact if_pos ⟨by omega, by omega⟩
    simp (disch := omega) only [Zaq, ZaS hv, Option.bind_some, dlt hlt, cond_true, h3, Zbx]
    cases v.hasv <;> rfl
  · intro i b v b' hv hb hs
    subst hb
    cases e : v.hasv <;> rw [e] at hs <;> cases hs
    rfl
  · intro b k' hb
    simp only [Zaq, ZnJ, cond_false]
  · clear h1 h2
    have : ∀ (l : List Val) (b : Nat), Zm2 (fun (b : Nat) (v : Val) => if v.hasv then .inr (some (b : Int)) else .inl (b + 1)) (fun _ => some (-1 : Int)) l b = some (Zgr l (b : Int)) := by
      intro l
      induction l with
      | nil => intro b; rfl
      | cons v l ih =>
        intro b
        simp only [Zm2, Zgr]
        cases v.hasv with
        | true => rfl
        | false => exact ih (b + 1)
    exact this l 0
theorem Ybu {K : Zaa} (hK : Zcp K) : Zag U (Zab C K) 14 ⟨true, [.ty 22], [4], ZsX⟩ :=
  Zb4 (U := U) (ak := [.ty 22]) (rts := [4]) Zah ZsX fun k ih =>
    have m1 : Zag U (Zab C K) 40 ⟨true, [.ty 51], [4], sV1 k⟩ := Zkh (kf hK 40 (by decide)) _ _ (Ycu hK) ih _ fun a r h => by
      unfold sV1 at h
      split at h
      · rename_i h3; cases h; exact ⟨0, Yb6 k a h3.1 h3.2⟩
      · cases h
    have m2 : Zag U (Zab C K) 60 ⟨true, [.ty 22, .fn 40], [3], sV2 k⟩ := Zbd (kf hK 60 (by decide)) _ m1 _ fun a r h => by
      unfold sV2 at h
      split at h
      · rename_i h3; cases h; exact ⟨_, YcN k a h3.1 h3.2⟩
      · cases h
    have m3 : Zag U (Zab C K) 39 ⟨true, [.ty 22, .fn 40], [4], sV3 k⟩ := Za7 (kf hK 39 (by decide)) _ m2 _ fun a r h => by
      unfold sV3 at h
      split at h
      · rename_i h3; cases h
        refine ⟨0, ?_⟩
        unfold Zay
        rw [show sV2 k a = some (Zgr a 0) from if_pos h3]
        exact congrArg some (Zw9 a 0)
      · cases h
    Zly (kf hK 14 (by decide)) _ m3 _ fun a r h => by
      obtain ⟨h1, h2⟩ := ZbB h
      unfold ZsX at h2
      split at h2
      · rename_i h3; cases h2
        refine ⟨0, ?_⟩
        unfold Zmi
        rw [show sV3 k a = some (ZaW a) from if_pos ⟨h1, h3⟩]
        rfl
      · cases h2
end Go.Tev.S1
namespace Go.Tev
open Go.Abs
mutual
def Val.siz (lim : Int) : Val → Int
  | .mk t l => IntKind.i64.wrap ((IntKind.i64.wrap ((IntKind.i64.wrap ((1 : Int) + (t.t.length : Int))) + (t.u.length : Int))) + Zv4 lim 0 l)
def Zv4 (lim acc : Int) : List Val → Int
  | [] => acc
  | v :: r => if acc ≤ lim then Zv4 lim (IntKind.i64.wrap (acc + v.siz (IntKind.i64.wrap (lim - acc)))) r else acc
end
theorem Val.siz_eq (lim : Int) (v : Val) : v.siz lim = IntKind.i64.wrap ((IntKind.i64.wrap ((IntKind.i64.wrap ((1 : Int) + (v.tok.t.length : Int))) + (v.tok.u.length : Int))) + Zv4 lim 0 v.l) := by cases v; rfl
mutual
def Val.eqb : Val → Val → Bool
  | .mk t l, .mk t' l' => Tok.eqb t t' && ZuX l l'
def ZuX : List Val → List Val → Bool
  | [], [] => true
  | v :: r, v' :: r' => v.eqb v' && ZuX r r'
  | _, _ => false
end
end Go.Tev
namespace Go.Tev.S1
open Go.Abs Go.Proofs
def Znr (a : List Val × Int) : Option Int := if Zah a.1 ≤ B then some (Zv4 a.2 0 a.1) else none
theorem Zo6 {l : List Val} {c : Int} (h : Zah l ≤ B) : Znr (l, c) = some (Zv4 c 0 l) := if_pos h
theorem Zyh (lim : Int) (l : List Val) (k : Nat) (h1 : Zah l < k + 1) (h2 : Zah l ≤ B) : Zhb (below (fun a : List Val × Int => Zah a.1) k Znr) (l.length + 2) l lim = some (Zv4 lim 0 l) := by
  have hB : B = 2 ^ 36 := rfl
  unfold Zhb Zei
  have main : ∀ (r : List Val) (i : Nat) (acc : Int) (fuel : Nat), l.drop i = r → i ≤ l.length → r.length + 1 < fuel → Zgy (fun y k_1 => Zcq (below (fun a : List Val × Int => Zah a.1) k Znr) (l.length + 2) l lim 0 (fun z1 => some z1) y.1 y.2.1 fun a0 a1 => k_1 (a0, a1, ())) fuel (acc, (i : Int), ()) = some (Zv4 lim acc r) := by
    intro r
    induction r with
    | nil =>
      intro i acc fuel hr hi hf
      obtain ⟨n, rfl⟩ : ∃ n, fuel = n + 1 := ⟨fuel - 1, by omega⟩
      have : i = l.length := by
        have := congrArg List.length hr
        simp at this; omega
      subst this
      simp only [Zgy, Zcq, ZnJ, cond_false, Option.bind_some, Zv4]
    | cons v r ih =>
      intro i acc fuel hr hi hf
      obtain ⟨n, rfl⟩ : ∃ n, fuel = n + 1 := ⟨fuel - 1, by omega⟩
      have hv : l[i]? = some v := by
        have := congrArg (fun x => x[0]?) hr
        simpa using this
      have hlt : i < l.length := (List.getElem?_eq_some_iff.1 hv).1
      have hr' : l.drop (i + 1) = r := by rw [← List.drop_drop, hr]; rfl
      have hmem := List.mem_of_getElem? hv
      have hs := Zc9 hmem
      have hl := Zdd l
      have hbel : below (fun a : List Val × Int => Zah a.1) k Znr (v.l, IntKind.i64.wrap (lim - acc)) = some (Zv4 (IntKind.i64.wrap (lim - acc)) 0 v.l) := (Zb7 (sz := fun a : List Val × Int => Zah a.1) (show Zah v.l < k by omega)).trans (Zo6 (by omega))
      rw [Zv4, Val.siz_eq]
      by_cases hc : acc ≤ lim
      · have e1 : decide (acc ≤ lim) = true := decide_eq_true hc
        rw [if_pos hc]
        simp only [Zgy, Zcq, dlt hlt, cond_true, Option.bind_some, e1, ZaS hv, hbel]
        rw [Za6 (by omega)]
        exact ih (i + 1) _ n hr' (by omega) (by simp at hf; omega)
      · have e1 : decide (acc ≤ lim) = false := decide_eq_false hc
        rw [if_neg hc]
        simp only [Zgy, Zcq, dlt hlt, cond_true, cond_false, Option.bind_some, e1]
  exact main l 0 0 (l.length + 2) rfl (Nat.zero_le _) (by omega)
theorem YaN {K : Zaa} (hK : Zcp K) : Zag U (Zab C K) 27 ⟨true, [.ty 22, .ty 3], [3], Znr⟩ :=
  Zb4 (U := U) (ak := [.ty 22, .ty 3]) (rts := [3]) (fun a : List Val × Int => Zah a.1) Znr fun k ih => Zk6 (kf hK 27 (by decide)) _ ih _ fun a r h => by
    obtain ⟨h1, h2⟩ := ZbB h
    unfold Znr at h2
    split at h2
    · rename_i h3; cases h2; exact ⟨_, Zyh a.2 a.1 k h1 h3⟩
    · cases h2
def ZuS (l : List Val) : Bool := decide (Zv4 300 0 l > 300) || decide (Zfh l > 40)
def ZnS (l : List Val) : Option Bool := if Zah l ≤ B then some (ZuS l) else none
theorem ZqL {l : List Val} (h : Zah l ≤ B) : ZnS l = some (ZuS l) := if_pos h
theorem Zvc (l : List Val) (h : Zah l ≤ B) : Zf9 Znr Zqo 0 l = some (ZuS l) := by
  unfold Zf9 ZuS
  rw [Zo6 h, Zo7 h]
  simp only [Option.bind_some]
  have : decide ((Zfh l : Int) > 40) = decide (Zfh l > 40) := by simp; omega
  rw [← this]
  cases decide (Zv4 300 0 l > 300) <;> rfl
theorem Zwa {K : Zaa} (hK : Zcp K) : Zag U (Zab C K) 9 ⟨true, [.ty 22], [4], ZnS⟩ :=
  ZjA (kf hK 9 (by decide)) _ _ (YaN hK) (YaU (kf hK 28 (by decide)) (kf hK 47 (by decide))) _ fun a r h => by
    unfold ZnS at h
    split at h
    · rename_i h3; cases h; exact ⟨0, Zvc a h3⟩
    · cases h
def Ztg (a : List Val × List Val) : Option Bool := if Zah a.1 ≤ B ∧ Zah a.2 ≤ B then some (ZuX a.1 a.2) else none
theorem ZtR {l m : List Val} (h : Zah l ≤ B) (h2 : Zah m ≤ B) : Ztg (l, m) = some (ZuX l m) := if_pos ⟨h, h2⟩
theorem Val.eqb_eq (v w : Val) : v.eqb w = (Tok.eqb v.tok w.tok && ZuX v.l w.l) := by cases v; cases w; rfl
theorem ZtL : ∀ (l m : List Val), l.length ≠ m.length → ZuX l m = false
  | [], [], h => absurd rfl h
  | [], _ :: _, _ => rfl
  | _ :: _, [], _ => rfl
  | v :: r, w :: s, h => by
    rw [ZuX, ZtL r s (by simp at h; exact h), Bool.and_false]
theorem ZwJ (l m : List Val) (k : Nat) (h1 : Zah l < k + 1) (h2 : Zah l ≤ B) (h3 : Zah m ≤ B) : Zg5 (below (fun a : List Val × List Val => Zah a.1) k Ztg) (l.length + 1) l m = some (ZuX l m) := by
  have hB : B = 2 ^ 36 := rfl
  unfold Zg5
  by_cases hle : l.length = m.length
  · have e0 : ((l.length : Int) != (m.length : Int)) = false := by simp [hle]
    rw [e0, cond_false]
    refine (ZbO (l.zip m) (fun (_ : Unit) => false) (fun b v => if v.1.eqb v.2 then .inl () else .inr (some false)) (fun b => some true) (fun i b => True) ?_ ?_ ?_ () trivial _ (by simp; omega)).trans ?_
    · intro i b v k' hv hlt hb
      have hz : i < l.length ∧ i < m.length := by simp at hlt; omega
      obtain ⟨hv1, hv2⟩ := List.getElem?_zip_eq_some.1 hv
      have hmem := List.mem_of_getElem? hv1
      have hmem2 := List.mem_of_getElem? hv2
      have hs := Zc9 hmem
      have hs2 := Zc9 hmem2
      have hl := Zdd l
      have hbel : below (fun a : List Val × List Val => Zah a.1) k Ztg (v.1.l, v.2.l) = some (ZuX v.1.l v.2.l) := (Zb7 (sz := fun a : List Val × List Val => Zah a.1) (show Zah v.1.l < k by omega)).trans (ZtR (by omega) (by omega))
      simp (disch := omega) only [Zes, ZaS hv1, ZaS hv2, Option.bind_some, dlt hz.1, cond_true, hbel, Zbx]
      have hi : (i : Int) + 1 = ((i + 1 : Nat) : Int) := rfl
      rw [hi, Val.eqb_eq]
      cases e1 : Tok.eqb v.1.tok v.2.tok <;> cases e5 : ZuX v.1.l v.2.l <;> rw [e5] at hbel <;> first | rfl | simp [hbel]
    · intro i b v b' hv hb hs
      trivial
    · intro b k' hb
      have : (l.zip m).length = l.length := by simp; omega
      rw [this]
      simp only [Zes, ZnJ, cond_false]
    · clear h1 h2 h3 e0
      induction l generalizing m with
      | nil => cases m with
        | nil => rfl
        | cons w m => simp at hle
      | cons v l ih => cases m with
        | nil => simp at hle
        | cons w m =>
          simp only [List.zip_cons_cons, Zm2, ZuX]
          cases v.eqb w with
          | true => simpa using ih m (by simp at hle; exact hle)
          | false => rfl
  · have e0 : ((l.length : Int) != (m.length : Int)) = true := by simp; omega
    rw [e0, ZtL l m hle]; rfl
theorem YdA {K : Zaa} (hK : Zcp K) : Zag U (Zab C K) 15 ⟨true, [.ty 22, .ty 22], [4], Ztg⟩ :=
  Zb4 (U := U) (ak := [.ty 22, .ty 22]) (rts := [4]) (fun a : List Val × List Val => Zah a.1) Ztg fun k ih => Zk1 (kf hK 15 (by decide)) _ ih _ fun a r h => by
    obtain ⟨h1, h2⟩ := ZbB h
    unfold Ztg at h2
    split at h2
    · rename_i h3; cases h2; exact ⟨_, ZwJ a.1 a.2 k h1 h3.1 h3.2⟩
    · cases h2
end Go.Tev.S1
namespace Go.Tev.S1
open Go.Abs Go.Proofs
theorem ZxP (l : List Val) (k : Nat) (h1 : Zah l < k + 1) (h2 : Zah l ≤ B) : ZfY (below Zah k Zh4) (l.length + 1) l = some (Zah l : Int) := by
  have hB : B = 2 ^ 36 := rfl
  unfold ZfY
  refine (ZbO l (fun (b : List Val) => (Zah b : Int)) (fun b v => .inl (b ++ [v])) (fun b => some (Zah b : Int)) (fun i b => b = l.take i) ?_ ?_ ?_ [] rfl _ (Nat.lt_succ_self _)).trans ?_
  · intro i b v k' hv hlt hb
    subst hb
    have hmem := List.mem_of_getElem? hv
    have hs := Zc9 hmem
    have ht := Zla hv
    have hle := Zc7 l (i + 1)
    have hl := Zdd l
    have he := v.tot_eq
    have hbel : below Zah k Zh4 v.l = some (Zah v.l : Int) := (Zb7 (show Zah v.l < k by omega)).trans (Zhs (by omega))
    simp (disch := omega) only [Zd3, ZaS hv, Option.bind_some, dlt hlt, cond_true, hbel, Zbx]
    have hx : (Zah (l.take i) : Int) + (1 + (v.tok.t.length : Int) + (v.tok.u.length : Int) + (Zah v.l : Int)) = (Zah (l.take i ++ [v]) : Int) := by
      rw [ZeR]; simp only [Zah]; omega
    rw [hx]; rfl
  · intro i b v b' hv hb hs
    cases hs
    rw [Za3 hv, hb]
  · intro b k' hb
    simp only [Zd3, ZnJ, cond_false]
  · rw [Zck (fun (b : List Val) (v : Val) => b ++ [v]), ZeJ]
theorem ZwK {K : Zaa} (hK : Zcp K) : Zag U (Zab C K) 44 ⟨true, [.ty 22], [3], Zh4⟩ :=
  Zb4 (U := U) (ak := [.ty 22]) (rts := [3]) Zah Zh4 fun k ih => Zj7 (kf hK 44 (by decide)) _ ih _ fun a r h => by
    obtain ⟨h1, h2⟩ := ZbB h
    obtain ⟨h3, rfl⟩ := ZnP h2
    exact ⟨_, ZxP a k h1 h3⟩
theorem ZnR {R : Type} (G : List Val → (List Val → Option R) → Option R) (kx : List Val → Option R)
    (hG : ∀ l k, G l k = match l with
      | [] => kx []
      | v :: r => if sp v then k r else kx (v :: r)) : ∀ (l : List Val) (n : Nat), l.length < n → Zvr G n l = kx (spL l)
  | [], n, h => by
    obtain ⟨n, rfl⟩ : ∃ m, n = m + 1 := ⟨n - 1, by omega⟩
    rw [Zhw, hG]; rfl
  | v :: r, n, h => by
    obtain ⟨n, rfl⟩ : ∃ m, n = m + 1 := ⟨n - 1, by omega⟩
    rw [Zhw, hG, spL]
    simp only
    by_cases hv : sp v = true
    · rw [if_pos hv, if_pos hv]
      exact ZnR G kx hG r n (by simp at h; omega)
    · rw [if_neg hv, if_neg hv]
theorem Zwo {R : Type} (G : List Val → (List Val → Option R) → Option R) (kx : List Val → Option R)
    (h0 : ∀ k, G [] k = kx []) (hG : ∀ l v k, l.length < 2 ^ 62 → G (l ++ [v]) k = if sp v then k l else kx (l ++ [v])) : ∀ (m l : List Val) (n : Nat), l.reverse = m → l.length < n → l.length < 2 ^ 62 → Zvr G n l = kx (trR l)
  | [], l, n, e, h, hb => by
    have : l = [] := by simpa using e
    subst this
    obtain ⟨n, rfl⟩ : ∃ m, n = m + 1 := ⟨n - 1, by omega⟩
    rw [Zhw, h0]; rfl
  | v :: r, l, n, e, h, hb => by
    have : l = r.reverse ++ [v] := by rw [← List.reverse_reverse l, e]; simp
    subst this
    simp at hb h
    obtain ⟨n, rfl⟩ : ∃ m, n = m + 1 := ⟨n - 1, by omega⟩
    rw [Zhw, hG _ _ _ (by simp; omega)]
    have e2 : trR (r.reverse ++ [v]) = if sp v then trR r.reverse else r.reverse ++ [v] := by
      unfold trR
      rw [e, spL]
      split
      · simp
      · simp
    rw [e2]
    by_cases hv : sp v = true
    · rw [if_pos hv, if_pos hv]
      exact Zwo G kx h0 hG r r.reverse n (by simp) (by simp; omega) (by simp; omega)
    · rw [if_neg hv, if_neg hv]
theorem ZwU {v : Val} {r : List Val} : ZdC (v :: r) 0 = some v := rfl
theorem ZlH {v : Val} {r : List Val} : Zsi (v :: r) 1 ((v :: r).length : Int) = some r := by
  unfold Zsi
  rw [if_pos (by simp; omega)]
  simp
theorem Zz3 {v : Val} {r : List Val} : decide (((v :: r).length : Int) > 0) = true := by simp
theorem Zw5 {l : List Val} {v : Val} : ZdC (l ++ [v]) (l.length : Int) = some v := ZaS (by simp)
theorem Zv9 {l : List Val} {v : Val} : Zsi (l ++ [v]) 0 (l.length : Int) = some l := by
  unfold Zsi
  rw [if_pos (by simp; omega)]
  simp
theorem ZsG (l : List Val) : Zf0 (l.length + 1) l = some (spL l) := by
  unfold Zf0
  refine ZnR _ (fun z => some z) ?_ l _ (Nat.lt_succ_self _)
  intro l k
  cases l with
  | nil => rfl
  | cons v r =>
    simp only [Zft, Zz3, cond_true, ZwU, Option.bind_some, ZlH, sp]
    exact Bool.cond_eq_ite _ _ _
theorem ZuL {K : Zaa} (hK : Zcp K) : Zag U (Zab C K) 67 ⟨true, [.ty 22], [22], fun l => some (spL l)⟩ :=
  ZjU (kf hK 67 (by decide)) _ fun a r h => by cases h; exact ⟨_, ZsG a⟩
def ZyY (l : List Val) : Option (List Val) := if Zah l ≤ B then some (trL l) else none
theorem ZzY {l : List Val} (h : Zah l ≤ B) : ZyY l = some (trL l) := if_pos h
theorem ZwQ {l : List Val} {v : Val} (h : l.length < 2 ^ 62) : IntKind.i64.wrap (((l ++ [v]).length : Int) - 1) = (l.length : Int) := by
  rw [Zbx (by simp <;> omega) (by simp <;> omega)]; simp only [List.length_append, List.length_cons, List.length_nil]; omega
theorem Yae {v : Val} {r : List Val} : decide (((r ++ [v]).length : Int) > 0) = true := by simp
theorem Zx9 (l : List Val) (h : Zah l ≤ B) : Zi7 (fun l => some (spL l)) ((spL l).length + 1) l = some (trL l) := by
  have hB : B = 2 ^ 36 := rfl
  unfold Zi7
  simp only [Option.bind_some]
  have h1 := Zdd (spL l)
  have h2 := ZlQ l
  refine Zwo _ (fun z => some z) ?_ ?_ _ (spL l) _ rfl (Nat.lt_succ_self _) (by omega)
  · intro k; rfl
  · intro l v k hl
    simp only [ZgX, Yae, cond_true, ZwQ hl, Zw5, Option.bind_some, Zv9, sp]
    exact Bool.cond_eq_ite _ _ _
theorem Ydo {K : Zaa} (hK : Zcp K) : Zag U (Zab C K) 68 ⟨true, [.ty 22], [22], ZyY⟩ :=
  ZlJ (kf hK 68 (by decide)) _ (ZuL hK) _ fun a r h => by
    unfold ZyY at h
    split at h
    · rename_i h3; cases h; exact ⟨_, Zx9 a h3⟩
    · cases h
end Go.Tev.S1
namespace Go.Tev.S1
open Go.Abs Go.Proofs
def Zn8 (v : Val) : Option (List UInt8 × List Val × Bool) := if v.tot ≤ B then some (Zax v.l) else none
theorem ZlI {v : Val} (h : v.tot ≤ B) : Zn8 v = some (Zax v.l) := if_pos h
theorem Ztv {α : Type} {v : α} {r : List α} : (((v :: r).length : Int) == 0) = false := by simp; omega
theorem Zvv (v : Val) (h : v.tot ≤ B) : ZhA (fun l => some (spL l)) (fun p => some (Za1 p)) ZyY 0 v = some (Zax v.l) := by
  have he := v.tot_eq
  have hs := ZlQ v.l
  unfold ZhA Zax
  simp only [Option.bind_some]
  cases e : spL v.l with
  | nil => rfl
  | cons x r =>
    rw [e] at hs
    simp only [Zah] at hs
    have hs2 := ZlQ r
    simp only [Ztv, Bool.not_false, cond_true, cond_false, ZwU, Option.bind_some, ZlH]
    by_cases h1 : x.tok.k = 1
    · have e1 : (x.tok.k != 1) = false := by simpa using h1
      by_cases h2 : Za1 x.tok.t = true
      · rw [if_pos ⟨h1, h2⟩]
        simp only [e1, h2, Bool.not_false, Bool.not_true, cond_true, cond_false, Option.bind_some]
        cases e3 : spL r with
        | nil => rfl
        | cons y s =>
          rw [e3] at hs2
          simp only [Zah] at hs2
          simp only [Ztv, cond_false, ZwU, Option.bind_some, ZlH, ZzY (show Zah s ≤ B by omega)]
          by_cases h4 : y.tok.k = 18
          · rw [if_pos h4, h4]; rfl
          · have e4 : (y.tok.k == 18) = false := by simpa using h4
            rw [if_neg h4, e4]; rfl
      · rw [if_neg (fun hh => h2 hh.2)]
        have h2' : Za1 x.tok.t = false := (Bool.not_eq_true _).mp h2
        simp only [e1, h2', Bool.not_false, cond_true, cond_false, Option.bind_some]
    · have e1 : (x.tok.k != 1) = true := by simpa using h1
      rw [if_neg (fun hh => h1 hh.1)]
      simp only [e1, Bool.not_true, cond_true, cond_false, Option.bind_some]
theorem Zs1 {K : Zaa} (hK : Zcp K) : Zag U (Zab C K) 56 ⟨true, [.ty 51], [9, 22, 4], Zn8⟩ :=
  ZkP (kf hK 56 (by decide)) _ _ _ (ZuL hK) (Zub hK) (Ydo hK) _ fun a r h => by
    unfold Zn8 at h
    split at h
    · rename_i h3; cases h; exact ⟨0, Zvv a h3⟩
    · cases h
end Go.Tev.S1
namespace Go.Tev
open Go.Abs
abbrev V : Nat := 2 ^ 24
abbrev Lk := List UInt8 → Option (List Val)
theorem Zo3 (v : Val) (r : List Val) : Zah r < Zah (v :: r) := by
  simp only [Zah, Val.tot_eq]; omega
theorem Zrw (v : Val) (r : List Val) : Zah v.l < Zah (v :: r) := by
  simp only [Zah, Val.tot_eq]; omega
theorem Zit (v : Val) (r : List Val) : Zah (Zax v.l).2.1 < Zah (v :: r) :=
  Nat.lt_of_le_of_lt (ZiX v.l) (Zrw v r)
def Zlj (a b : Option Nat) : Option Nat := match a, b with
  | some m, some n => some (m + n)
  | _, _ => none
theorem ZeV {a b : Option Nat} {n : Nat} (h : Zlj a b = some n) : ∃ x y, a = some x ∧ b = some y ∧ n = x + y := by
  unfold Zlj at h
  split at h
  · exact ⟨_, _, rfl, rfl, (Option.some.inj h).symm⟩
  · cases h
def ZeP (lk : Lk) : List Val → Option Nat
  | [] => some 0
  | v :: r => Zlj (if v.ref then (match lk (Zax v.l).1 with
      | some x => some (Zah x)
      | none => if (Zax v.l).2.2 then ZeP lk (Zax v.l).2.1 else none)
    else Zlj (some (1 + v.tok.t.length + v.tok.u.length)) (ZeP lk v.l)) (ZeP lk r)
termination_by l => Zah l
decreasing_by
  · exact Zit v r
  · exact Zrw v r
  · exact Zo3 v r
def Zsp (lk : Lk) (v : Val) : Option Nat := if v.ref then (match lk (Zax v.l).1 with
      | some x => some (Zah x)
      | none => if (Zax v.l).2.2 then ZeP lk (Zax v.l).2.1 else none)
    else Zlj (some (1 + v.tok.t.length + v.tok.u.length)) (ZeP lk v.l)
theorem ZpM {lk : Lk} {v : Val} (h : v.ref = false) : Zsp lk v = Zlj (some (1 + v.tok.t.length + v.tok.u.length)) (ZeP lk v.l) := by
  unfold Zsp; rw [if_neg (by rw [h]; decide)]
theorem ZuN {lk : Lk} {v : Val} {x : List Val} (h : v.ref = true) (h2 : lk (Zax v.l).1 = some x) : Zsp lk v = some (Zah x) := by
  unfold Zsp; rw [if_pos h, h2]
theorem Ztt {lk : Lk} {v : Val} (h : v.ref = true) (h2 : lk (Zax v.l).1 = none) (h3 : (Zax v.l).2.2 = true) : Zsp lk v = ZeP lk (Zax v.l).2.1 := by
  unfold Zsp; rw [if_pos h, h2]; simp only [h3, if_true]
theorem Zt8 {lk : Lk} {v : Val} (h : v.ref = true) (h2 : lk (Zax v.l).1 = none) (h3 : (Zax v.l).2.2 = false) : Zsp lk v = none := by
  unfold Zsp; rw [if_pos h, h2]; simp [h3]
theorem Zdy (lk : Lk) : ZeP lk [] = some 0 := by rw [ZeP]
theorem ZcH (lk : Lk) (v : Val) (r : List Val) : ZeP lk (v :: r) = Zlj (Zsp lk v) (ZeP lk r) := by rw [ZeP]; rfl
theorem ZvH (a b c : Option Nat) : Zlj (Zlj a b) c = Zlj a (Zlj b c) := by
  cases a <;> cases b <;> cases c <;> simp [Zlj, Nat.add_assoc]
theorem Zxx (a : Option Nat) : Zlj (some 0) a = a := by cases a <;> simp [Zlj]
theorem Zva (a : Option Nat) : Zlj a (some 0) = a := by cases a <;> simp [Zlj]
theorem Zin (lk : Lk) (a b : List Val) : ZeP lk (a ++ b) = Zlj (ZeP lk a) (ZeP lk b) := by
  induction a with
  | nil => rw [Zdy, Zxx]; rfl
  | cons v a ih => rw [List.cons_append, ZcH, ZcH, ih, ZvH]
theorem Zya (lk : Lk) (a : List Val) (v : Val) : ZeP lk (a ++ [v]) = Zlj (ZeP lk a) (Zsp lk v) := by
  rw [Zin, ZcH, Zdy, Zva]
def ZdW (lk : Lk) : List Val → List Val
  | [] => []
  | v :: r => (if v.ref then (match lk (Zax v.l).1 with
      | some x => x
      | none => ZdW lk (Zax v.l).2.1)
    else [Val.mk v.tok (ZdW lk v.l)]) ++ ZdW lk r
termination_by l => Zah l
decreasing_by
  · exact Zit v r
  · exact Zrw v r
  · exact Zo3 v r
def ZvW (lk : Lk) (v : Val) : List Val := if v.ref then (match lk (Zax v.l).1 with
      | some x => x
      | none => ZdW lk (Zax v.l).2.1)
    else [Val.mk v.tok (ZdW lk v.l)]
theorem Zti {lk : Lk} {v : Val} (h : v.ref = false) : ZvW lk v = [Val.mk v.tok (ZdW lk v.l)] := by
  unfold ZvW; rw [if_neg (by rw [h]; decide)]
theorem ZyU {lk : Lk} {v : Val} {x : List Val} (h : v.ref = true) (h2 : lk (Zax v.l).1 = some x) : ZvW lk v = x := by
  unfold ZvW; rw [if_pos h, h2]
theorem ZzE {lk : Lk} {v : Val} (h : v.ref = true) (h2 : lk (Zax v.l).1 = none) : ZvW lk v = ZdW lk (Zax v.l).2.1 := by
  unfold ZvW; rw [if_pos h, h2]
theorem Zfc (lk : Lk) : ZdW lk [] = [] := by rw [ZdW]
theorem Zej (lk : Lk) (v : Val) (r : List Val) : ZdW lk (v :: r) = ZvW lk v ++ ZdW lk r := by rw [ZdW]; rfl
theorem Ztq (lk : Lk) (a b : List Val) : ZdW lk (a ++ b) = ZdW lk a ++ ZdW lk b := by
  induction a with
  | nil => rw [Zfc]; rfl
  | cons v a ih => rw [List.cons_append, Zej, Zej, ih, List.append_assoc]
theorem Zqu (lk : Lk) (a : List Val) (v : Val) : ZdW lk (a ++ [v]) = ZdW lk a ++ ZvW lk v := by
  rw [Ztq, Zej, Zfc, List.append_nil]
theorem Zhr (P : List Val → Prop) (h0 : P []) (h1 : ∀ v r, P r → P v.l → P (Zax v.l).2.1 → P (v :: r)) : ∀ l, P l := by
  have : ∀ (n : Nat) l, Zah l < n → P l := by
    intro n
    induction n with
    | zero => intro l h; omega
    | succ n ih =>
      intro l h
      cases l with
      | nil => exact h0
      | cons v r =>
        have a1 := Zo3 v r
        have a2 := Zrw v r
        have a3 := Zit v r
        exact h1 v r (ih _ (by omega)) (ih _ (by omega)) (ih _ (by omega))
  exact fun l => this _ l (Nat.lt_succ_self _)
theorem Zym (lk : Lk) : ∀ l m, ZeP lk l = some m → Zah (ZdW lk l) = m := by
  refine Zhr _ ?_ ?_
  · intro m h
    rw [Zdy] at h
    cases h
    rw [Zfc]; rfl
  · intro v r h1 h2 h3 m h
    rw [ZcH] at h
    obtain ⟨x, y, hx, hy, rfl⟩ := ZeV h
    rw [Zej, ZeR, h1 y hy]
    congr 1
    unfold Zsp at hx
    unfold ZvW
    split at hx
    · rename_i hv
      rw [if_pos hv]
      split at hx
      · rename_i z hz
        exact Option.some.inj hx
      · rename_i hz
        split at hx
        · exact h3 x hx
        · cases hx
    · rename_i hv
      rw [if_neg hv]
      obtain ⟨a, b, ha, hb, rfl⟩ := ZeV hx
      cases ha
      simp only [Zah, Val.tot, h2 b hb]
      rfl
theorem Ydj (lk : Lk) (W : Nat) (hW : 1 ≤ W) (hlk : ∀ n x, lk n = some x → Zah x ≤ W) : ∀ l m, ZeP lk l = some m → m ≤ Zah l * W := by
  refine Zhr _ ?_ ?_
  · intro m h
    rw [Zdy] at h
    cases h
    omega
  · intro v r h1 h2 h3 m h
    rw [ZcH] at h
    obtain ⟨x, y, hx, hy, rfl⟩ := ZeV h
    have hr := h1 y hy
    simp only [Zah, Nat.add_mul]
    suffices x ≤ v.tot * W by omega
    have ht : 1 * W ≤ v.tot * W := Nat.mul_le_mul_right _ (by rw [Val.tot_eq]; omega)
    unfold Zsp at hx
    split at hx
    · split at hx
      · rename_i z hz
        have := hlk _ _ hz
        cases hx
        omega
      · split at hx
        · have h4 := h3 x hx
          have h5 : Zah (Zax v.l).2.1 * W ≤ v.tot * W := Nat.mul_le_mul_right _ (by have := ZiX v.l; rw [Val.tot_eq]; omega)
          omega
        · cases hx
    · obtain ⟨a, b, ha, hb, rfl⟩ := ZeV hx
      cases ha
      have h4 := h2 b hb
      rw [Val.tot_eq, Nat.add_mul (1 + v.tok.t.length + v.tok.u.length)]
      have h5 : (1 + v.tok.t.length + v.tok.u.length) * 1 ≤ (1 + v.tok.t.length + v.tok.u.length) * W := Nat.mul_le_mul_left _ hW
      omega
theorem ZtZ (lk : Lk) : ∀ l, ZaW l = false → ZdW lk l = l := by
  refine Zhr _ ?_ ?_
  · intro h; exact Zfc lk
  · intro v r h1 h2 h3 h
    rw [ZaW, Bool.or_eq_false_iff, Val.hasv_eq, Bool.or_eq_false_iff] at h
    rw [Zej, h1 h.2, ZvW, if_neg (by rw [h.1.1]; decide), h2 h.1.2, Val.eta]
    rfl
theorem Zpu (lk : Lk) : ∀ l, ZaW l = false → ZeP lk l = some (Zah l) := by
  refine Zhr _ ?_ ?_
  · intro h; exact Zdy lk
  · intro v r h1 h2 h3 h
    rw [ZaW, Bool.or_eq_false_iff, Val.hasv_eq, Bool.or_eq_false_iff] at h
    rw [ZcH, h1 h.2, Zsp, if_neg (by rw [h.1.1]; decide), h2 h.1.2]
    simp only [Zlj, Zah, Val.tot_eq]
def lkM (m : List (List UInt8 × List Val)) : Lk := fun n => Za5 BEq.beq n m
def lkC : List Cus → Lk
  | [], _ => none
  | c :: r, n => if c.name == n then some c.val else lkC r n
theorem YcD {m : List (List UInt8 × List Val)} {n : List UInt8} {x : List Val} (h : lkM m n = some x) : ∃ p ∈ m, p.2 = x := by
  induction m with
  | nil => cases h
  | cons p m ih =>
    obtain ⟨k, v⟩ := p
    simp only [lkM, Za5] at h
    cases e : (n == k) <;> rw [e] at h
    · obtain ⟨q, hq, hx⟩ := ih h
      exact ⟨q, List.mem_cons_of_mem _ hq, hx⟩
    · cases h
      exact ⟨_, List.mem_cons_self, rfl⟩
theorem YcG {c : List Cus} {n : List UInt8} {x : List Val} (h : lkC c n = some x) : ∃ p ∈ c, p.val = x := by
  induction c with
  | nil => cases h
  | cons p m ih =>
    simp only [lkC] at h
    split at h
    · cases h; exact ⟨_, List.mem_cons_self, rfl⟩
    · obtain ⟨q, hq, hx⟩ := ih h
      exact ⟨q, List.mem_cons_of_mem _ hq, hx⟩
end Go.Tev
namespace Go.Tev
open Go.Abs
section
variable {x : Cx} {ρ : List Rf} {h0 : Base} {s : TSt x.X} {a : St}
def LawP (x : Cx) (h0 : Base) (call : Zaa) (fa : FA) (n m : Nat) (c : Code) {R : Type} (L : Ya7 x.U R) : Prop := ∀ (k : TOut x.X → Option R) (s : TSt x.X) (z : R), s.tmp = [] → L k s = some z → ∀ e0 ρ a, (∀ t, (Zad s.env t).isSome = true → (Zad e0 t).isSome = true) → Rel x.U ρ h0 s a →
  ∃ o' o σ, k o' = some z ∧ iter (evQ x.C call fa n c) e0 m a = some o ∧ TORel x σ h0 o' o
end
section
variable {C : Ctx} {call : Zaa} {fa : FA}
theorem Zmd {f : St → Option Out} {e0 : List (Nat × SV)} : ∀ (m : Nat) (st : St) (o : Out), iter f e0 m st = some o → iter f e0 (m + 1) st = some o
  | 0, st, o, h => by cases h
  | m + 1, st, o, h => by
    rw [iter] at h ⊢
    split at h
    · exact Zmd m _ o h
    · exact h
theorem Zup (n : Nat) : ∀ (c : Code) (st : St) (o : Out), evQ C call fa n c st = some o → evQ C call fa (n + 1) c st = some o := by
  intro c
  induction c with
  | seq p q ihp ihq =>
    intro st o h
    simp only [evQ] at h ⊢
    split at h
    · rename_i st' hs
      rw [ihp _ _ hs]
      exact ihq _ _ h
    · rename_i r hn
      rw [ihp _ _ h]
      split
      · rename_i st' hs
        cases hs
        exact absurd h (hn st')
      · rfl
  | cond c p q ihp ihq =>
    intro st o h
    simp only [evQ] at h ⊢
    split at h
    · rename_i t ht
      cases t with
      | true => exact ihp _ _ h
      | false => exact ihq _ _ h
    · cases h
  | block i c ih =>
    intro st o h
    simp only [evQ] at h ⊢
    cases hq : evQ C call fa n c st with
    | none => rw [hq] at h; cases h
    | some o1 =>
      rw [hq] at h
      rw [ih _ _ hq]
      exact h
  | loop c ih =>
    intro st o h
    simp only [evQ] at h ⊢
    exact Zmd _ _ _ (Zir (fun st o hh => ih st o hh) _ _ _ h)
  | _ => intro st o h; exact h
end
section
variable {x : Cx} {h0 : Base}
theorem LawP.succ {call : Zaa} {fa : FA} {n m : Nat} {c : Code} {R : Type} {L : Ya7 x.U R} (h : LawP x h0 call fa n m c L) : LawP x h0 call fa (n + 1) m c L := fun k s z ht hz e0 ρ a hc r => by
  obtain ⟨o', o, σ, h1, h2, h3⟩ := h k s z ht hz e0 ρ a hc r
  exact ⟨o', o, σ, h1, Zir (fun st o hh => Zup n c st o hh) _ _ _ h2, h3⟩
theorem Law.succ {call : Zaa} {fa : FA} {n : Nat} {c : Code} {R : Type} {L : Ya7 x.U R} (h : Law x h0 call fa n c L) : Law x h0 call fa (n + 1) c L := fun k s z ht hz ρ a r => by
  obtain ⟨o', o, σ, h1, h2, h3⟩ := h k s z ht hz ρ a r
  exact ⟨o', o, σ, h1, Zmd _ _ _ (Zir (fun st o hh => Zup n c st o hh) _ _ _ h2), h3⟩
end
end Go.Tev
namespace Go.Tev.S1
open Go.Abs Go.Proofs
abbrev T3a : Type := Val → Option Bool
abbrev T3b : Type := Val → Option ((List UInt8) × (List Val) × Bool)
abbrev T3c : Type := (List Val) → ((List ((List UInt8) × Bool)) × Unit) → Option ((Unit) × ((List ((List UInt8) × Bool)) × Unit))
abbrev T3d : Type := List ((List UInt8) × Bool)
abbrev T3e : Type := (List Val) × (List ((List UInt8) × (List Val))) → Option Int
abbrev T3f : Type := (List Val) → Option Int
abbrev T3g : Type := (List Val) × (List ((List UInt8) × (List Val))) → Option (List Val)
abbrev T3h : Type := (List Val) → Option Bool
abbrev T3i : Type := (List Cus) → Option Int
abbrev T3j : Type := (List Cus) → Option (List ((List UInt8) × (List Val)))
abbrev T3k : Type := (List Val) × (List ((List UInt8) × (List Val))) → Option ((List Val) × Int)
abbrev P3a (K : Zaa) (t : T3a) : Prop := Zag U (Zab C K) 55 ⟨true, [.ty 51], [4], t⟩
abbrev P3b (K : Zaa) (t : T3b) : Prop := Zag U (Zab C K) 56 ⟨true, [.ty 51], [9, 22, 4], t⟩
abbrev P3c (K : Zaa) (t : T3e) : Prop := Zag U (Zab C K) 53 ⟨true, [.ty 22, .ty 60], [3], t⟩
abbrev P3d (K : Zaa) (t : T3f) : Prop := Zag U (Zab C K) 44 ⟨true, [.ty 22], [3], t⟩
abbrev P3e (K : Zaa) (t : T3g) : Prop := Zag U (Zab C K) 54 ⟨true, [.ty 22, .ty 60], [22], t⟩
abbrev P3f (K : Zaa) (t : T3h) : Prop := Zag U (Zab C K) 14 ⟨true, [.ty 22], [4], t⟩
abbrev P3g (K : Zaa) (t : T3f) : Prop := Zag U (Zab C K) 33 ⟨true, [.ty 22], [28], t⟩
abbrev P3h (K : Zaa) (t : T3i) : Prop := Zag U (Zab C K) 22 ⟨true, [.ty 23], [28], t⟩
abbrev P3i (K : Zaa) (t : T3j) : Prop := Zag U (Zab C K) 35 ⟨false, [.ty 23], [60], t⟩
abbrev P3j (K : Zaa) (t : T3k) : Prop := Zag U (Zab C K) 34 ⟨true, [.ty 22, .ty 60], [22, 28], t⟩
def Zdw (qa : T3a) (qb : T3b) (qc : T3c) {R : Type} (n : Nat) (_ : Unit) (a9 : List Val) (a10 : Int) (kx0 : (List ((List UInt8) × Bool)) → Option R) (y11 : Int) (h1 : List ((List UInt8) × Bool)) (k : Int → (List ((List UInt8) × Bool)) → Option R) : Option R :=
  cond (decide (y11 < a10))
  (Option.bind (ZdC a9 y11) fun x2 =>
  Option.bind (qa (Val.mk x2.tok x2.l)) fun r3 =>
  Option.bind (cond r3 (qb (Val.mk x2.tok x2.l)) (some ([], [], false))) fun r4 =>
  Option.bind (some (cond (r4.1 != []) x2.tok.k x2.tok.k)) fun m5 =>
  Option.bind (some (cond (r4.1 != []) x2.tok.t x2.tok.t)) fun m6 =>
  Option.bind (some (cond (r4.1 != []) x2.tok.n x2.tok.n)) fun m7 =>
  Option.bind (some (cond (r4.1 != []) x2.tok.u x2.tok.u)) fun m8 =>
  Option.bind (some (cond (r4.1 != []) x2.tok.f x2.tok.f)) fun m9 =>
  Option.bind (some (cond (r4.1 != []) x2.l x2.l)) fun m10 =>
  Option.bind (some (cond (r4.1 != []) (ZgB BEq.beq r4.1 true h1) h1)) fun m11 =>
  Option.bind (some (cond r3 m5 x2.tok.k)) fun m12 =>
  Option.bind (some (cond r3 m6 x2.tok.t)) fun m13 =>
  Option.bind (some (cond r3 m7 x2.tok.n)) fun m14 =>
  Option.bind (some (cond r3 m8 x2.tok.u)) fun m15 =>
  Option.bind (some (cond r3 m9 x2.tok.f)) fun m16 =>
  Option.bind (some (cond r3 m10 x2.l)) fun m17 =>
  Option.bind (some (cond r3 m11 h1)) fun m18 =>
  Option.bind (qc m17 (m18, ())) fun w19 =>
  k (IntKind.i64.wrap (y11 + (1 : Int))) w19.2.1)
  (kx0 h1)
def Zff (qa : T3a) (qb : T3b) (qc : T3c) (n : Nat) (p0 : List Val) (q1 : T3d) : Option ((Unit) × ((List ((List UInt8) × Bool)) × Unit)) :=
  Zei (Zdw qa qb qc n () p0 (p0.length : Int) (fun z1 =>
  some ((), (z1, ())))) n (0 : Int) q1
abbrev Znv (qa : T3a) (qb : T3b) (qc : T3c) : List (Nat × TCall X) := [(55, ⟨true, [.ty 51], [4], qa⟩), (56, ⟨true, [.ty 51], [9, 22, 4], qb⟩)]
noncomputable abbrev ZbF (qa : T3a) (qb : T3b) (qc : T3c) : Cx := ⟨C, U, Znv qa qb qc, [(36, ⟨[.ty 22, .ref (.map 9 4)], [], qc⟩)], fun _ => []⟩
theorem Zmp : okF (C.ann 36) Tryz.f36 2 = true := by kernel_rfl
abbrev vars_collect_L0_D : LD := ⟨1, [.mp 1 0, .val 9 22, .val 10 2], [.val 11 2, .hmap 9 4], [(0, [.hmap 9 4])], []⟩
abbrev Zco (qa : T3a) (qb : T3b) (qc : T3c) (n : Nat) : LG U (PX X [] × PR' X (AR.refs [.ty 22, .ref (.map 9 4)])) vars_collect_L0_D := fun c kx kr y k => Zdw qa qb qc n c.1 c.2.1 c.2.2.1 (fun z0 => kx 0 (z0, ())) y.1 y.2.1 (fun z0 z1 => k (z0, z1, ()))
noncomputable abbrev Zcz (qa : T3a) (qb : T3b) (qc : T3c) (n : Nat) : Zek (ZbF qa qb qc) (PX X [] × PR' X (AR.refs [.ty 22, .ref (.map 9 4)])) := [(0, Zeo U vars_collect_L0_D (Zco qa qb qc n) n)]
theorem ZjN (qa : T3a) (qb : T3b) (qc : T3c) (n : Nat) : ∀ c kx kr y k1, evL (ZbF qa qb qc) (ann 36) (Zcz qa qb qc n) 0 (Zaj (Zac Tryz.f36) 0) (ZdT U vars_collect_L0_D kx kr k1) (encS U vars_collect_L0_D.cap vars_collect_L0_D.din c y) = Zco qa qb qc n c (fun i z => kx i c z) kr y (fun y2 => k1 c y2) := by
  intro c kx kr y k1
  kernel_rfl
theorem ZmU (qa : T3a) (qb : T3b) (qc : T3c) (n : Nat) : ∀ a cs, fnR (ZbF qa qb qc) 36 Tryz.f36 [.ty 22, .ref (.map 9 4)] [] (Zcz qa qb qc n) a cs = Zff qa qb qc n a cs.1 := by
  intro a cs
  kernel_rfl
theorem ZgK {K : Zaa} (qa : T3a) (qb : T3b) (qc : T3c) (h0 : P3a K qa) (h1 : P3b K qb) (g0 : Zeh U (Zab C K) 36 ⟨[.ty 22, .ref (.map 9 4)], [], qc⟩) : CallsOk (ZbF qa qb qc) (Zab C K) :=
  ⟨(Zae h0 (Zae h1 Zaw)), (Zw0 g0 Zav)⟩
theorem Zid {K : Zaa} (qa : T3a) (qb : T3b) (qc : T3c) (h0 : P3a K qa) (h1 : P3b K qb) (g0 : Zeh U (Zab C K) 36 ⟨[.ty 22, .ref (.map 9 4)], [], qc⟩) (n : Nat) (b0 : Base) (bn0 : b0.nr ≤ 1) : Law (ZbF qa qb qc) b0 (Zab C K) (ann 36) n (Zaj (Zac Tryz.f36) 0) (Zeo U vars_collect_L0_D (Zco qa qb qc n) n) :=
  Zcf (x := ZbF qa qb qc) (id := 0) ok (ZgK qa qb qc h0 h1 g0) (sums := Zcz qa qb qc n) (Zal (show Zak 0 (Zaj (Zac Tryz.f36) 0) = [] by kernel_rfl)) vars_collect_L0_D bn0 (Zco qa qb qc n) (ZjN qa qb qc n)
theorem Zi2 {K : Zaa} (hK : ∀ args h, K 36 args h = none) (qa : T3a) (qb : T3b) (qc : T3c) (h0 : P3a K qa) (h1 : P3b K qb) (g0 : Zeh U (Zab C K) 36 ⟨[.ty 22, .ref (.map 9 4)], [], qc⟩) (t : PX X (AR.tys [.ty 22, .ref (.map 9 4)]) → PR' X (AR.refs [.ty 22, .ref (.map 9 4)]) → Option (PX X [] × PR' X (AR.refs [.ty 22, .ref (.map 9 4)]))) (h : ∀ a cs r, t a cs = some r → ∃ n, Zff qa qb qc n a cs.1 = some r) : Zeh U (Zab C K) 36 ⟨[.ty 22, .ref (.map 9 4)], [], t⟩ := by
  refine Zwz (x := ZbF qa qb qc) (ak := [.ty 22, .ref (.map 9 4)]) (rts := []) ok (ZgK qa qb qc h0 h1 g0) hK Tryz.func36 Zmp fun a cs r hr => ?_
  obtain ⟨n, hn⟩ := h a cs r hr
  exact ⟨n, Zcz qa qb qc n, fun b0 bn0 => (ZaV (ids := [0]) (by kernel_rfl) (by decide) (fun i hi => by
    simp only [List.mem_cons, List.not_mem_nil, or_false] at hi
    rcases hi with rfl
    · exact ZaR (c2 := Zaj (Zac Tryz.f36) 0) (by kernel_rfl) (by kernel_rfl) (Zid qa qb qc h0 h1 g0 _ b0 bn0)
    )), (ZmU qa qb qc n a cs).trans hn⟩
def ZdB (qa : T3a) (qd : T3e) (qb : T3b) (qe : T3f) {R : Type} (n : Nat) (a1 : List ((List UInt8) × (List Val))) (a14 : List Val) (a15 : Int) (kx0 : Int → Int → Option R) (kr : Int → Option R) (y4 : Int) (y5 : Int) (y16 : Int) (k : Int → Int → Int → Option R) : Option R :=
  cond (decide (y16 < a15))
  (Option.bind (ZdC a14 y16) fun x4 =>
  Option.bind (qa (Val.mk x4.tok x4.l)) fun r5 =>
  Option.bind (cond (!r5) (qd (x4.l, a1)) (some (0 : Int))) fun r6 =>
  Option.bind (cond (!(!r5)) (qb (Val.mk x4.tok x4.l)) (some ([], [], false))) fun r7 =>
  Option.bind (cond ((!(!r5)) && ((Za5 BEq.beq r7.1 a1).isSome)) (qe (ZkQ [] (Za5 BEq.beq r7.1 a1))) (some (0 : Int))) fun r8 =>
  Option.bind (cond (((!(!r5)) && (!((Za5 BEq.beq r7.1 a1).isSome))) && r7.2.2) (qd (r7.2.1, a1)) (some (0 : Int))) fun r9 =>
  Option.bind (some (cond r7.2.2 x4.tok.k x4.tok.k)) fun m10 =>
  Option.bind (some (cond r7.2.2 x4.tok.t x4.tok.t)) fun m11 =>
  Option.bind (some (cond r7.2.2 x4.tok.n x4.tok.n)) fun m12 =>
  Option.bind (some (cond r7.2.2 x4.tok.u x4.tok.u)) fun m13 =>
  Option.bind (some (cond r7.2.2 x4.tok.f x4.tok.f)) fun m14 =>
  Option.bind (some (cond r7.2.2 x4.l x4.l)) fun m15 =>
  Option.bind (some (cond r7.2.2 r9 (-1 : Int))) fun m16 =>
  Option.bind (some (cond ((Za5 BEq.beq r7.1 a1).isSome) x4.tok.k m10)) fun m17 =>
  Option.bind (some (cond ((Za5 BEq.beq r7.1 a1).isSome) x4.tok.t m11)) fun m18 =>
  Option.bind (some (cond ((Za5 BEq.beq r7.1 a1).isSome) x4.tok.n m12)) fun m19 =>
  Option.bind (some (cond ((Za5 BEq.beq r7.1 a1).isSome) x4.tok.u m13)) fun m20 =>
  Option.bind (some (cond ((Za5 BEq.beq r7.1 a1).isSome) x4.tok.f m14)) fun m21 =>
  Option.bind (some (cond ((Za5 BEq.beq r7.1 a1).isSome) x4.l m15)) fun m22 =>
  Option.bind (some (cond ((Za5 BEq.beq r7.1 a1).isSome) r8 m16)) fun m23 =>
  Option.bind (some (cond (!r5) (IntKind.i64.wrap (y5 + (IntKind.i64.wrap ((IntKind.i64.wrap ((1 : Int) + (x4.tok.t.length : Int))) + (x4.tok.u.length : Int))))) y5)) fun m24 =>
  Option.bind (some (cond (!r5) x4.tok.k m17)) fun m25 =>
  Option.bind (some (cond (!r5) x4.tok.t m18)) fun m26 =>
  Option.bind (some (cond (!r5) x4.tok.n m19)) fun m27 =>
  Option.bind (some (cond (!r5) x4.tok.u m20)) fun m28 =>
  Option.bind (some (cond (!r5) x4.tok.f m21)) fun m29 =>
  Option.bind (some (cond (!r5) x4.l m22)) fun m30 =>
  Option.bind (some (cond (!r5) r6 m23)) fun m31 =>
  cond (decide (m31 < (0 : Int)))
  (kr (-1 : Int))
  (k y4 (IntKind.i64.wrap (m24 + m31)) (IntKind.i64.wrap (y16 + (1 : Int)))))
  (kx0 y4 y5)
def Zfj (qa : T3a) (qd : T3e) (qb : T3b) (qe : T3f) (n : Nat) (p0 : List Val) (p1 : List ((List UInt8) × (List Val))) : Option Int :=
  ZqF (ZdB qa qd qb qe n p1 p0 (p0.length : Int) (fun z1 z2 =>
  some z2) (fun z3 =>
  some z3)) n (0 : Int) (0 : Int) (0 : Int)
abbrev Znx (qa : T3a) (qd : T3e) (qb : T3b) (qe : T3f) : List (Nat × TCall X) := [(55, ⟨true, [.ty 51], [4], qa⟩), (53, ⟨true, [.ty 22, .ty 60], [3], qd⟩), (56, ⟨true, [.ty 51], [9, 22, 4], qb⟩), (44, ⟨true, [.ty 22], [3], qe⟩)]
noncomputable abbrev ZbG (qa : T3a) (qd : T3e) (qb : T3b) (qe : T3f) : Cx := ⟨C, U, Znx qa qd qb qe, [], fun _ => []⟩
theorem Zmn : okF (C.ann 53) Tryz.f53 2 = true := by kernel_rfl
abbrev vars_measure_L0_D : LD := ⟨0, [.val 1 60, .val 14 22, .val 15 2], [.val 4 2, .val 5 2, .val 16 2], [(0, [.val 4 2, .val 5 2])], [.val 4 3]⟩
abbrev Zcw (qa : T3a) (qd : T3e) (qb : T3b) (qe : T3f) (n : Nat) : LG U (PX X [3]) vars_measure_L0_D := fun c kx kr y k => ZdB qa qd qb qe n c.1 c.2.1 c.2.2.1 (fun z0 z1 => kx 0 (z0, z1, ())) (fun z0 => kr (z0, ())) y.1 y.2.1 y.2.2.1 (fun z0 z1 z2 => k (z0, z1, z2, ()))
noncomputable abbrev Zcx (qa : T3a) (qd : T3e) (qb : T3b) (qe : T3f) (n : Nat) : Zek (ZbG qa qd qb qe) (PX X [3]) := [(0, Zeo U vars_measure_L0_D (Zcw qa qd qb qe n) n)]
theorem ZjT (qa : T3a) (qd : T3e) (qb : T3b) (qe : T3f) (n : Nat) : ∀ c kx kr y k1, evL (ZbG qa qd qb qe) (ann 53) (Zcx qa qd qb qe n) 0 (Zaj (Zac Tryz.f53) 0) (ZdT U vars_measure_L0_D kx kr k1) (encS U vars_measure_L0_D.cap vars_measure_L0_D.din c y) = Zcw qa qd qb qe n c (fun i z => kx i c z) kr y (fun y2 => k1 c y2) := by
  intro c kx kr y k1
  kernel_rfl
theorem ZnF (qa : T3a) (qd : T3e) (qb : T3b) (qe : T3f) (n : Nat) : ∀ a, fnL (ZbG qa qd qb qe) true 53 Tryz.f53 [.ty 22, .ty 60] [3] (Zcx qa qd qb qe n) a = Zfj qa qd qb qe n a.1 a.2 := by
  intro a
  kernel_rfl
theorem ZgP {K : Zaa} (qa : T3a) (qd : T3e) (qb : T3b) (qe : T3f) (h0 : P3a K qa) (h1 : P3c K qd) (h2 : P3b K qb) (h3 : P3d K qe) : CallsOk (ZbG qa qd qb qe) (Zab C K) :=
  ⟨(Zae h0 (Zae h1 (Zae h2 (Zae h3 Zaw)))), Zav⟩
theorem Zh1 {K : Zaa} (qa : T3a) (qd : T3e) (qb : T3b) (qe : T3f) (h0 : P3a K qa) (h1 : P3c K qd) (h2 : P3b K qb) (h3 : P3d K qe) (n : Nat) (b0 : Base) (bn0 : b0.nr ≤ 0) : Law (ZbG qa qd qb qe) b0 (Zab C K) (ann 53) n (Zaj (Zac Tryz.f53) 0) (Zeo U vars_measure_L0_D (Zcw qa qd qb qe n) n) :=
  Zcf (x := ZbG qa qd qb qe) (id := 0) ok (ZgP qa qd qb qe h0 h1 h2 h3) (sums := Zcx qa qd qb qe n) (Zal (show Zak 0 (Zaj (Zac Tryz.f53) 0) = [] by kernel_rfl)) vars_measure_L0_D bn0 (Zcw qa qd qb qe n) (ZjT qa qd qb qe n)
theorem Zix {K : Zaa} (hK : ∀ args h, K 53 args h = none) (qa : T3a) (qd : T3e) (qb : T3b) (qe : T3f) (h0 : P3a K qa) (h1 : P3c K qd) (h2 : P3b K qb) (h3 : P3d K qe) (t : PX X (AK.tys [.ty 22, .ty 60]) → Option (PX X [3])) (h : ∀ a r, t a = some r → ∃ n, Zfj qa qd qb qe n a.1 a.2 = some r) : Zag U (Zab C K) 53 ⟨true, [.ty 22, .ty 60], [3], t⟩ := by
  refine Zap (x := ZbG qa qd qb qe) (ak := [.ty 22, .ty 60]) (rts := [3]) (dir := true) ok (ZgP qa qd qb qe h0 h1 h2 h3) hK Tryz.func53 Zmn fun a r hr => ?_
  obtain ⟨n, hn⟩ := h a r hr
  exact ⟨n, Zcx qa qd qb qe n, (ZaV (ids := [0]) (by kernel_rfl) (by decide) (fun i hi => by
    simp only [List.mem_cons, List.not_mem_nil, or_false] at hi
    rcases hi with rfl
    · exact ZaR (c2 := Zaj (Zac Tryz.f53) 0) (by kernel_rfl) (by kernel_rfl) (Zh1 qa qd qb qe h0 h1 h2 h3 _ _ (Nat.le_refl _))
    )), (ZnF qa qd qb qe n a).trans hn⟩
def ZfW (qa : T3a) (qf : T3g) (qb : T3b) {R : Type} (n : Nat) (a1 : List ((List UInt8) × (List Val))) (a4 : List Val) (a13 : List Val) (a14 : Int) (kx0 : List Val → Option R) (y5 : List Val) (y15 : Int) (k : List Val → Int → Option R) : Option R :=
  cond (decide (y15 < a14))
  (Option.bind (ZdC a13 y15) fun x2 =>
  Option.bind (qa (Val.mk x2.tok x2.l)) fun r3 =>
  cond (!r3)
  (Option.bind (qf (x2.l, a1)) fun r4 =>
  Option.bind (Option.bind (room 80 (y5.length + [(Val.mk x2.tok r4)].length)) (fun _ => some (y5 ++ [(Val.mk x2.tok r4)]))) fun o5 =>
  k o5 (IntKind.i64.wrap (y15 + (1 : Int))))
  (Option.bind (qb (Val.mk x2.tok x2.l)) fun r6 =>
  Option.bind (some (cond ((Za5 BEq.beq r6.1 a1).isSome) y5 y5)) fun m7 =>
  Option.bind (some (cond ((Za5 BEq.beq r6.1 a1).isSome) x2.tok.k x2.tok.k)) fun m8 =>
  Option.bind (some (cond ((Za5 BEq.beq r6.1 a1).isSome) x2.tok.t x2.tok.t)) fun m9 =>
  Option.bind (some (cond ((Za5 BEq.beq r6.1 a1).isSome) x2.tok.n x2.tok.n)) fun m10 =>
  Option.bind (some (cond ((Za5 BEq.beq r6.1 a1).isSome) x2.tok.u x2.tok.u)) fun m11 =>
  Option.bind (some (cond ((Za5 BEq.beq r6.1 a1).isSome) x2.tok.f x2.tok.f)) fun m12 =>
  Option.bind (some (cond ((Za5 BEq.beq r6.1 a1).isSome) x2.l x2.l)) fun m13 =>
  Option.bind (some (cond ((Za5 BEq.beq r6.1 a1).isSome) (ZkQ [] (Za5 BEq.beq r6.1 a1)) r6.2.1)) fun m14 =>
  Option.bind (qf (m14, a1)) fun r15 =>
  Option.bind (Option.bind (room 80 (m7.length + r15.length)) (fun _ => some (m7 ++ r15))) fun o16 =>
  k o16 (IntKind.i64.wrap (y15 + (1 : Int)))))
  (kx0 y5)
def Zlb (qa : T3a) (qf : T3g) (qb : T3b) (n : Nat) (p0 : List Val) (p1 : List ((List UInt8) × (List Val))) : Option (List Val) :=
  Zei (ZfW qa qf qb n p1 [] p0 (p0.length : Int) (fun z1 =>
  some z1)) n [] (0 : Int)
abbrev ZvZ (qa : T3a) (qf : T3g) (qb : T3b) : List (Nat × TCall X) := [(55, ⟨true, [.ty 51], [4], qa⟩), (54, ⟨true, [.ty 22, .ty 60], [22], qf⟩), (56, ⟨true, [.ty 51], [9, 22, 4], qb⟩)]
noncomputable abbrev ZdS (qa : T3a) (qf : T3g) (qb : T3b) : Cx := ⟨C, U, ZvZ qa qf qb, [], fun _ => []⟩
theorem ZsY : okF (C.ann 54) Tryz.f54 2 = true := by kernel_rfl
abbrev vars_put_L0_D : LD := ⟨0, [.val 1 60, .val 4 22, .val 13 22, .val 14 2], [.own 5 51, .val 15 2], [(0, [.own 5 51])], []⟩
abbrev ZeC (qa : T3a) (qf : T3g) (qb : T3b) (n : Nat) : LG U (PX X [22]) vars_put_L0_D := fun c kx kr y k => ZfW qa qf qb n c.1 c.2.1 c.2.2.1 c.2.2.2.1 (fun z0 => kx 0 (z0, ())) y.1 y.2.1 (fun z0 z1 => k (z0, z1, ()))
noncomputable abbrev ZeG (qa : T3a) (qf : T3g) (qb : T3b) (n : Nat) : Zek (ZdS qa qf qb) (PX X [22]) := [(0, Zeo U vars_put_L0_D (ZeC qa qf qb n) n)]
theorem ZoB (qa : T3a) (qf : T3g) (qb : T3b) (n : Nat) : ∀ c kx kr y k1, evL (ZdS qa qf qb) (ann 54) (ZeG qa qf qb n) 0 (Zaj (Zac Tryz.f54) 0) (ZdT U vars_put_L0_D kx kr k1) (encS U vars_put_L0_D.cap vars_put_L0_D.din c y) = ZeC qa qf qb n c (fun i z => kx i c z) kr y (fun y2 => k1 c y2) := by
  intro c kx kr y k1
  kernel_rfl
theorem ZvD (qa : T3a) (qf : T3g) (qb : T3b) (n : Nat) : ∀ a, fnL (ZdS qa qf qb) true 54 Tryz.f54 [.ty 22, .ty 60] [22] (ZeG qa qf qb n) a = Zlb qa qf qb n a.1 a.2 := by
  intro a
  kernel_rfl
theorem Zlq {K : Zaa} (qa : T3a) (qf : T3g) (qb : T3b) (h0 : P3a K qa) (h1 : P3e K qf) (h2 : P3b K qb) : CallsOk (ZdS qa qf qb) (Zab C K) :=
  ⟨(Zae h0 (Zae h1 (Zae h2 Zaw))), Zav⟩
theorem Zmv {K : Zaa} (qa : T3a) (qf : T3g) (qb : T3b) (h0 : P3a K qa) (h1 : P3e K qf) (h2 : P3b K qb) (n : Nat) (b0 : Base) (bn0 : b0.nr ≤ 0) : Law (ZdS qa qf qb) b0 (Zab C K) (ann 54) n (Zaj (Zac Tryz.f54) 0) (Zeo U vars_put_L0_D (ZeC qa qf qb n) n) :=
  Zcf (x := ZdS qa qf qb) (id := 0) ok (Zlq qa qf qb h0 h1 h2) (sums := ZeG qa qf qb n) (Zal (show Zak 0 (Zaj (Zac Tryz.f54) 0) = [] by kernel_rfl)) vars_put_L0_D bn0 (ZeC qa qf qb n) (ZoB qa qf qb n)
theorem Zm9 {K : Zaa} (hK : ∀ args h, K 54 args h = none) (qa : T3a) (qf : T3g) (qb : T3b) (h0 : P3a K qa) (h1 : P3e K qf) (h2 : P3b K qb) (t : PX X (AK.tys [.ty 22, .ty 60]) → Option (PX X [22])) (h : ∀ a r, t a = some r → ∃ n, Zlb qa qf qb n a.1 a.2 = some r) : Zag U (Zab C K) 54 ⟨true, [.ty 22, .ty 60], [22], t⟩ := by
  refine Zap (x := ZdS qa qf qb) (ak := [.ty 22, .ty 60]) (rts := [22]) (dir := true) ok (Zlq qa qf qb h0 h1 h2) hK Tryz.func54 ZsY fun a r hr => ?_
  obtain ⟨n, hn⟩ := h a r hr
  exact ⟨n, ZeG qa qf qb n, (ZaV (ids := [0]) (by kernel_rfl) (by decide) (fun i hi => by
    simp only [List.mem_cons, List.not_mem_nil, or_false] at hi
    rcases hi with rfl
    · exact ZaR (c2 := Zaj (Zac Tryz.f54) 0) (by kernel_rfl) (by kernel_rfl) (Zmv qa qf qb h0 h1 h2 _ _ (Nat.le_refl _))
    )), (ZvD qa qf qb n a).trans hn⟩
def Zfk (qd : T3e) (qg : T3h) (qf : T3g) (qh : T3f) (n : Nat) (p0 : List Val) (p1 : List ((List UInt8) × (List Val))) : Option ((List Val) × Int) :=
  Option.bind (qd (p0, p1)) fun r1 =>
  cond (decide (r1 < (0 : Int)))
  (some ([], (6 : Int)))
  (Option.bind (cond (decide (r1 > (2000 : Int))) (qg p0) (some false)) fun r2 =>
  Option.bind (some (cond (decide (r1 > (2000 : Int))) r2 false)) fun m3 =>
  cond m3
  (some ([], (28 : Int)))
  (Option.bind (qf (p0, p1)) fun r4 =>
  Option.bind (qh r4) fun r5 =>
  cond (r5 != (0 : Int))
  (some ([], r5))
  (some (r4, (0 : Int)))))
abbrev ZnB (qd : T3e) (qg : T3h) (qf : T3g) (qh : T3f) : List (Nat × TCall X) := [(53, ⟨true, [.ty 22, .ty 60], [3], qd⟩), (14, ⟨true, [.ty 22], [4], qg⟩), (54, ⟨true, [.ty 22, .ty 60], [22], qf⟩), (33, ⟨true, [.ty 22], [28], qh⟩)]
noncomputable abbrev Zd8 (qd : T3e) (qg : T3h) (qf : T3g) (qh : T3f) : Cx := ⟨C, U, ZnB qd qg qf qh, [], fun _ => []⟩
theorem Zl3 : okF (C.ann 34) Tryz.f34 2 = true := by kernel_rfl
noncomputable abbrev ZfN (qd : T3e) (qg : T3h) (qf : T3g) (qh : T3f) (n : Nat) : Zek (Zd8 qd qg qf qh) (PX X [22, 28]) := []
theorem Zno (qd : T3e) (qg : T3h) (qf : T3g) (qh : T3f) (n : Nat) : ∀ a, fnL (Zd8 qd qg qf qh) true 34 Tryz.f34 [.ty 22, .ty 60] [22, 28] (ZfN qd qg qf qh n) a = Zfk qd qg qf qh n a.1 a.2 := by
  intro a
  kernel_rfl
theorem Zlo {K : Zaa} (qd : T3e) (qg : T3h) (qf : T3g) (qh : T3f) (h0 : P3c K qd) (h1 : P3f K qg) (h2 : P3e K qf) (h3 : P3g K qh) : CallsOk (Zd8 qd qg qf qh) (Zab C K) :=
  ⟨(Zae h0 (Zae h1 (Zae h2 (Zae h3 Zaw)))), Zav⟩
theorem ZiW {K : Zaa} (hK : ∀ args h, K 34 args h = none) (qd : T3e) (qg : T3h) (qf : T3g) (qh : T3f) (h0 : P3c K qd) (h1 : P3f K qg) (h2 : P3e K qf) (h3 : P3g K qh) (t : PX X (AK.tys [.ty 22, .ty 60]) → Option (PX X [22, 28])) (h : ∀ a r, t a = some r → ∃ n, Zfk qd qg qf qh n a.1 a.2 = some r) : Zag U (Zab C K) 34 ⟨true, [.ty 22, .ty 60], [22, 28], t⟩ := by
  refine Zap (x := Zd8 qd qg qf qh) (ak := [.ty 22, .ty 60]) (rts := [22, 28]) (dir := true) ok (Zlo qd qg qf qh h0 h1 h2 h3) hK Tryz.func34 Zl3 fun a r hr => ?_
  obtain ⟨n, hn⟩ := h a r hr
  exact ⟨n, ZfN qd qg qf qh n, (Zal (show Zak 0 (Zac Tryz.f34) = [] by kernel_rfl)), (Zno qd qg qf qh n a).trans hn⟩
def ZeD {R : Type} (n : Nat) (_ : Unit) (a7 : List Cus) (a8 : Int) (kx0 : (List ((List UInt8) × (List Val))) → Option R) (y9 : Int) (h1 : List ((List UInt8) × (List Val))) (k : Int → (List ((List UInt8) × (List Val))) → Option R) : Option R :=
  cond (decide (y9 < a8))
  (Option.bind (ZdC a7 y9) fun x2 =>
  k (IntKind.i64.wrap (y9 + (1 : Int))) (ZgB BEq.beq x2.name x2.val h1))
  (kx0 h1)
def Zhy (n : Nat) (p0 : List Cus) : Option (List ((List UInt8) × (List Val))) :=
  Zei (ZeD n () p0 (p0.length : Int) (fun z1 =>
  some z1)) n (0 : Int) []
abbrev ZrG : List (Nat × TCall X) := []
noncomputable abbrev Zcj : Cx := ⟨C, U, ZrG , [], fun _ => []⟩
theorem Zpe : okF (C.ann 35) Tryz.f35 1 = true := by kernel_rfl
abbrev vars_table_L0_D : LD := ⟨0, [.mp 3 0, .val 7 23, .val 8 2], [.val 9 2, .hmap 9 22], [(0, [.hmap 9 22])], []⟩
abbrev ZdI (n : Nat) : LG U (PX X [60]) vars_table_L0_D := fun c kx kr y k => ZeD n c.1 c.2.1 c.2.2.1 (fun z0 => kx 0 (z0, ())) y.1 y.2.1 (fun z0 z1 => k (z0, z1, ()))
noncomputable abbrev Zdu (n : Nat) : Zek (Zcj ) (PX X [60]) := [(0, Zeo U vars_table_L0_D (ZdI n) n)]
theorem Zmm (n : Nat) : ∀ c kx kr y k1, evL (Zcj ) (ann 35) (Zdu n) 0 (Zaj (Zac Tryz.f35) 0) (ZdT U vars_table_L0_D kx kr k1) (encS U vars_table_L0_D.cap vars_table_L0_D.din c y) = ZdI n c (fun i z => kx i c z) kr y (fun y2 => k1 c y2) := by
  intro c kx kr y k1
  kernel_rfl
theorem ZrJ (n : Nat) : ∀ a, fnL (Zcj ) false 35 Tryz.f35 [.ty 23] [60] (Zdu n) a = Zhy n a := by
  intro a
  kernel_rfl
theorem Zi1 {K : Zaa} : CallsOk (Zcj ) (Zab C K) :=
  ⟨Zaw, Zav⟩
theorem ZjZ {K : Zaa} (n : Nat) (b0 : Base) (bn0 : b0.nr ≤ 0) : Law (Zcj ) b0 (Zab C K) (ann 35) n (Zaj (Zac Tryz.f35) 0) (Zeo U vars_table_L0_D (ZdI n) n) :=
  Zcf (x := Zcj ) (id := 0) ok (Zi1 ) (sums := Zdu n) (Zal (show Zak 0 (Zaj (Zac Tryz.f35) 0) = [] by kernel_rfl)) vars_table_L0_D bn0 (ZdI n) (Zmm n)
theorem Zk3 {K : Zaa} (hK : ∀ args h, K 35 args h = none) (t : PX X (AK.tys [.ty 23]) → Option (PX X [60])) (h : ∀ a r, t a = some r → ∃ n, Zhy n a = some r) : Zag U (Zab C K) 35 ⟨false, [.ty 23], [60], t⟩ := by
  refine Zap (x := Zcj ) (ak := [.ty 23]) (rts := [60]) (dir := false) ok (Zi1 ) hK Tryz.func35 Zpe fun a r hr => ?_
  obtain ⟨n, hn⟩ := h a r hr
  exact ⟨n, Zdu n, (ZaV (ids := [0]) (by kernel_rfl) (by decide) (fun i hi => by
    simp only [List.mem_cons, List.not_mem_nil, or_false] at hi
    rcases hi with rfl
    · exact ZaR (c2 := Zaj (Zac Tryz.f35) 0) (by kernel_rfl) (by kernel_rfl) (ZjZ _ _ (Nat.le_refl _))
    )), (ZrJ n a).trans hn⟩
def Zfe (qh : T3f) (qi : T3i) (qj : T3j) (qk : T3k) (n : Nat) (p0 : List Val) (p1 : List Cus) : Option ((List Val) × Int) :=
  Option.bind (qh p0) fun r1 =>
  cond (r1 != (0 : Int))
  (some ([], r1))
  (Option.bind (qi p1) fun r2 =>
  cond (r2 != (0 : Int))
  (some ([], r2))
  (Option.bind (qj p1) fun r3 =>
  Option.bind (qk (p0, r3)) fun r4 =>
  some (r4.1, r4.2)))
abbrev Zni (qh : T3f) (qi : T3i) (qj : T3j) (qk : T3k) : List (Nat × TCall X) := [(33, ⟨true, [.ty 22], [28], qh⟩), (22, ⟨true, [.ty 23], [28], qi⟩), (35, ⟨false, [.ty 23], [60], qj⟩), (34, ⟨true, [.ty 22, .ty 60], [22, 28], qk⟩)]
noncomputable abbrev Zd1 (qh : T3f) (qi : T3i) (qj : T3j) (qk : T3k) : Cx := ⟨C, U, Zni qh qi qj qk, [], fun _ => []⟩
theorem ZlS : okF (C.ann 12) Tryz.f12 2 = true := by kernel_rfl
noncomputable abbrev ZfJ (qh : T3f) (qi : T3i) (qj : T3j) (qk : T3k) (n : Nat) : Zek (Zd1 qh qi qj qk) (PX X [22, 28]) := []
theorem ZmW (qh : T3f) (qi : T3i) (qj : T3j) (qk : T3k) (n : Nat) : ∀ a, fnL (Zd1 qh qi qj qk) true 12 Tryz.f12 [.ty 22, .ty 23] [22, 28] (ZfJ qh qi qj qk n) a = Zfe qh qi qj qk n a.1 a.2 := by
  intro a
  kernel_rfl
theorem ZlT {K : Zaa} (qh : T3f) (qi : T3i) (qj : T3j) (qk : T3k) (h0 : P3g K qh) (h1 : P3h K qi) (h2 : P3i K qj) (h3 : P3j K qk) : CallsOk (Zd1 qh qi qj qk) (Zab C K) :=
  ⟨(Zae h0 (Zae h1 (Zae h2 (Zae h3 Zaw)))), Zav⟩
theorem Zjl {K : Zaa} (hK : ∀ args h, K 12 args h = none) (qh : T3f) (qi : T3i) (qj : T3j) (qk : T3k) (h0 : P3g K qh) (h1 : P3h K qi) (h2 : P3i K qj) (h3 : P3j K qk) (t : PX X (AK.tys [.ty 22, .ty 23]) → Option (PX X [22, 28])) (h : ∀ a r, t a = some r → ∃ n, Zfe qh qi qj qk n a.1 a.2 = some r) : Zag U (Zab C K) 12 ⟨true, [.ty 22, .ty 23], [22, 28], t⟩ := by
  refine Zap (x := Zd1 qh qi qj qk) (ak := [.ty 22, .ty 23]) (rts := [22, 28]) (dir := true) ok (ZlT qh qi qj qk h0 h1 h2 h3) hK Tryz.func12 ZlS fun a r hr => ?_
  obtain ⟨n, hn⟩ := h a r hr
  exact ⟨n, ZfJ qh qi qj qk n, (Zal (show Zak 0 (Zac Tryz.f12) = [] by kernel_rfl)), (ZmW qh qi qj qk n a).trans hn⟩
end Go.Tev.S1
namespace Go.Tev.S1
open Go.Abs Go.Proofs
def ZvK (lk : Lk) (l : List Val) : Int := match ZeP lk l with
  | some m => m
  | none => -1
theorem Zzu {R : Type} (lk : Lk) (z : Option R) (kx : List Val → Option R) : ∀ (l b : List Val), (ZeP lk b).isSome = true →
    Zm2 (fun b v => if (ZeP lk (b ++ [v])).isSome = true then .inl (b ++ [v]) else .inr z) kx l b = if (ZeP lk (b ++ l)).isSome = true then kx (b ++ l) else z := by
  intro l
  induction l with
  | nil => intro b hb; simp only [Zm2, List.append_nil, if_pos hb]
  | cons v l ih =>
    intro b hb
    simp only [Zm2]
    by_cases h : (ZeP lk (b ++ [v])).isSome = true
    · rw [if_pos h]
      simp only
      rw [ih _ h, List.append_assoc]; rfl
    · rw [if_neg h]
      have : ¬ (ZeP lk (b ++ v :: l)).isSome = true := by
        intro h2
        apply h
        have e : b ++ v :: l = (b ++ [v]) ++ l := by simp
        rw [e, Zin] at h2
        cases hh : ZeP lk (b ++ [v]) with
        | none => rw [hh] at h2; simp [Zlj] at h2
        | some x => rfl
      rw [if_neg this]
def okM (a : List Val × List (List UInt8 × List Val)) : Prop := Zah a.1 ≤ B ∧ ∀ p ∈ a.2, Zah p.2 ≤ V
instance (a) : Decidable (okM a) := inferInstanceAs (Decidable (_ ∧ _))
def YaX (a : List Val × List (List UInt8 × List Val)) : Option Int := if okM a then some (ZvK (lkM a.2) a.1) else none
theorem Zte {l : List Val} {m : List (List UInt8 × List Val)} (h : Zah l ≤ B) (h2 : ∀ p ∈ m, Zah p.2 ≤ V) : YaX (l, m) = some (ZvK (lkM m) l) := if_pos ⟨h, h2⟩
theorem ZlX {lk : Lk} {l : List Val} {m : Nat} (h : Zah l ≤ B) (h2 : ∀ n x, lk n = some x → Zah x ≤ V) (hm : ZeP lk l = some m) : m ≤ 2 ^ 60 := by
  have h3 := Ydj lk V (by decide) h2 l m hm
  have h4 : Zah l * V ≤ B * V := Nat.mul_le_mul_right _ h
  have h5 : B * V = 2 ^ 60 := by decide
  omega
theorem Zih {lk : Lk} {l : List Val} {m : Nat} (h : ZeP lk l = some m) : ZvK lk l = (m : Int) := by unfold ZvK; rw [h]
theorem Ziv {lk : Lk} {l : List Val} (h : ZeP lk l = none) : ZvK lk l = -1 := by unfold ZvK; rw [h]
theorem Zs2 : decide ((-1 : Int) < 0) = true := rfl
theorem ZqC (m : List (List UInt8 × List Val)) (l : List Val) (k : Nat) (h1 : Zah l < k + 1) (h2 : Zah l ≤ B) (hm : ∀ p ∈ m, Zah p.2 ≤ V) :
    Zfj (fun v => some v.ref) (below (fun a : List Val × List (List UInt8 × List Val) => Zah a.1) k YaX) Zn8 Zh4 (l.length + 1) l m = some (ZvK (lkM m) l) := by
  have hB : B = 2 ^ 36 := rfl
  have hV : V = 2 ^ 24 := rfl
  have hlk : ∀ n x, lkM m n = some x → Zah x ≤ V := by
    intro n x h
    obtain ⟨p, hp, rfl⟩ := YcD h
    exact hm p hp
  unfold Zfj
  have e0 : ZvK (lkM m) [] = 0 := by unfold ZvK; rw [Zdy]; rfl
  refine ((congrArg (fun z => ZqF _ _ (0 : Int) z (0 : Int)) e0.symm).trans (Zjw l (fun (_ : List Val) => (0 : Int)) (fun b => ZvK (lkM m) b) (fun b v => if (ZeP (lkM m) (b ++ [v])).isSome = true then .inl (b ++ [v]) else .inr (some (-1 : Int))) (fun b => some (ZvK (lkM m) b)) (fun i b => b = l.take i ∧ (ZeP (lkM m) b).isSome = true) ?_ ?_ ?_ [] ⟨rfl, by rw [Zdy]; rfl⟩ _ (Nat.lt_succ_self _))).trans ?_
  · intro i b v k' hv hlt hb
    obtain ⟨hb, hbs⟩ := hb
    obtain ⟨nb, hnb⟩ := Option.isSome_iff_exists.1 hbs
    have hmem := List.mem_of_getElem? hv
    have hs := Zc9 hmem
    have hm1 := ZjK hmem
    have hl := Zdd l
    have he := v.tot_eq
    have hp := ZiX v.l
    have hble : Zah b ≤ B := by rw [hb]; exact Nat.le_trans (Zc7 l i) h2
    have hbb := ZlX hble hlk hnb
    have ib := Zih hnb
    have hbel : below (fun a : List Val × List (List UInt8 × List Val) => Zah a.1) k YaX (v.l, m) = some (ZvK (lkM m) v.l) := (Zb7 (sz := fun a : List Val × List (List UInt8 × List Val) => Zah a.1) (show Zah v.l < k by omega)).trans (Zte (by omega) hm)
    have hbel2 : below (fun a : List Val × List (List UInt8 × List Val) => Zah a.1) k YaX ((Zax v.l).2.1, m) = some (ZvK (lkM m) (Zax v.l).2.1) := (Zb7 (sz := fun a : List Val × List (List UInt8 × List Val) => Zah a.1) (show Zah (Zax v.l).2.1 < k by omega)).trans (Zte (by omega) hm)
    have hi : IntKind.i64.wrap ((i : Int) + 1) = ((i + 1 : Nat) : Int) := Za6 (by omega)
    simp only [ZdB, ZaS hv, Option.bind_some, dlt hlt, cond_true, Val.eta, hi, Bool.cond_self]
    have hsn := Zya (lkM m) b v
    rw [hnb] at hsn
    rw [ib]
    cases e1 : v.ref
    · rw [ZpM e1] at hsn
      simp only [Bool.not_false, Bool.not_true, cond_true, cond_false, Option.bind_some, hbel, Bool.false_and]
      cases e2 : ZeP (lkM m) v.l with
      | none =>
        rw [e2] at hsn
        rw [Ziv e2, hsn]
        simp only [Zs2, cond_true, Zlj, Option.isSome_none, Bool.false_eq_true, if_false]
      | some n =>
        have hnn := ZlX (show Zah v.l ≤ B by omega) hlk e2
        rw [e2] at hsn
        have e3 : decide ((n : Int) < 0) = false := by simp
        rw [Zih e2, e3, if_pos (by rw [hsn]; rfl)]
        simp only [cond_false]
        rw [Zih hsn]
        simp (disch := omega) only [Zbx]
        have hx : (nb : Int) + (1 + (v.tok.t.length : Int) + (v.tok.u.length : Int)) + (n : Int) = ((nb + ((1 + v.tok.t.length + v.tok.u.length) + n) : Nat) : Int) := by omega
        rw [hx]
    · simp only [Bool.not_false, Bool.not_true, cond_true, cond_false, Option.bind_some, ZlI (show v.tot ≤ B by omega), Bool.true_and]
      cases e2 : Za5 BEq.beq (Zax v.l).1 m with
      | some x =>
        have e2' : lkM m (Zax v.l).1 = some x := e2
        have hxl := hlk _ _ e2'
        rw [ZuN e1 e2'] at hsn
        simp only [ZkQ, Option.isSome_some, cond_true, Bool.not_true, Bool.false_and, cond_false, Zhs (show Zah x ≤ B by omega), Option.bind_some]
        have e3 : decide ((Zah x : Int) < 0) = false := by simp
        rw [e3, if_pos (by rw [hsn]; rfl)]
        simp only [cond_false]
        rw [Zih hsn, Zbx (by omega) (by omega)]
        rfl
      | none =>
        have e2' : lkM m (Zax v.l).1 = none := e2
        simp only [Option.isSome_none, cond_false, Bool.not_false, Bool.true_and, Option.bind_some]
        cases e3 : (Zax v.l).2.2
        · rw [Zt8 e1 e2' e3] at hsn
          rw [hsn]
          simp only [Zs2, cond_true, cond_false, Option.bind_some, Zlj, Option.isSome_none, Bool.false_eq_true, if_false]
        · rw [Ztt e1 e2' e3] at hsn
          simp only [cond_true, hbel2, Option.bind_some]
          cases e4 : ZeP (lkM m) (Zax v.l).2.1 with
          | none =>
            rw [e4] at hsn
            rw [Ziv e4, hsn]
            simp only [Zs2, cond_true, Zlj, Option.isSome_none, Bool.false_eq_true, if_false]
          | some n =>
            rw [e4] at hsn
            have hnn := ZlX (show Zah (Zax v.l).2.1 ≤ B by omega) hlk e4
            have e5 : decide ((n : Int) < 0) = false := by simp
            rw [Zih e4, e5, if_pos (by rw [hsn]; rfl)]
            simp only [cond_false]
            rw [Zih hsn, Zbx (by omega) (by omega)]
            rfl
  · intro i b v b' hv hb hs
    split at hs
    · rename_i h; cases hs; exact ⟨by rw [Za3 hv, hb.1], h⟩
    · cases hs
  · intro b k' hb
    simp only [ZdB, ZnJ, cond_false]
  · rw [Zzu _ _ _ _ _ (by rw [Zdy]; rfl)]
    simp only [List.nil_append]
    cases e : ZeP (lkM m) l with
    | none => rw [Ziv e]; rfl
    | some n => rfl
theorem ZwS {K : Zaa} (hK : Zcp K) : Zag U (Zab C K) 53 ⟨true, [.ty 22, .ty 60], [3], YaX⟩ :=
  Zb4 (U := U) (ak := [.ty 22, .ty 60]) (rts := [3]) (fun a : List Val × List (List UInt8 × List Val) => Zah a.1) YaX fun k ih => Zix (kf hK 53 (by decide)) _ _ _ _ (ZsO hK) ih (Zs1 hK) (ZwK hK) _ fun a r h => by
    obtain ⟨h1, h2⟩ := ZbB h
    unfold YaX at h2
    split at h2
    · rename_i h3; cases h2; exact ⟨_, ZqC a.2 a.1 k h1 h3.1 h3.2⟩
    · cases h2
end Go.Tev.S1
namespace Go.Tev
open Go.Abs
theorem YcR {lk : Lk} {l : List Val} {n : Nat} (h : ZeP lk l = some n) {v : Val} (hv : v ∈ l) : ∃ n', Zsp lk v = some n' ∧ n' ≤ n := by
  induction l generalizing n with
  | nil => cases hv
  | cons w l ih =>
    rw [ZcH] at h
    obtain ⟨x, y, hx, hy, rfl⟩ := ZeV h
    rcases List.mem_cons.1 hv with rfl | hv
    · exact ⟨x, hx, by omega⟩
    · obtain ⟨n', h1, h2⟩ := ih hy hv
      exact ⟨n', h1, by omega⟩
theorem Ybw {lk : Lk} {l : List Val} {n : Nat} (h : ZeP lk l = some n) (i : Nat) : (ZdW lk (l.take i)).length ≤ n := by
  rw [← List.take_append_drop i l, Zin] at h
  obtain ⟨x, y, hx, hy, rfl⟩ := ZeV h
  have h1 := Zym lk _ _ hx
  have h2 := Zdd (ZdW lk (l.take i))
  omega
theorem Zp5 {l : List Val} {v : Val} (hv : v ∈ l) (h : v.hasv = true) : ZaW l = true := by
  induction l with
  | nil => cases hv
  | cons w l ih =>
    rw [ZaW]
    rcases List.mem_cons.1 hv with rfl | hv
    · rw [h]; rfl
    · rw [ih hv, Bool.or_true]
end Go.Tev
namespace Go.Tev.S1
open Go.Abs Go.Proofs
def okC' (a : List Val × List Cus) : Prop := Zah a.1 ≤ B ∧ a.2.length ≤ B ∧ ∀ p ∈ a.2, Zah p.val ≤ V
instance (a) : Decidable (okC' a) := inferInstanceAs (Decidable (_ ∧ _ ∧ _))
end Go.Tev.S1
namespace Go.Tev.S1
open Go.Abs Go.Proofs
abbrev Mp := List (List UInt8 × List Val)
def YdK (lk : Lk) : Prop := ∀ n x, lk n = some x → Zah x ≤ V ∧ ZaW x = false
def okP (lk : Lk) (l : List Val) : Prop := Zah l ≤ B ∧ YdK lk ∧ ∃ n, ZeP lk l = some n ∧ n ≤ B
open Classical in
noncomputable def Ycw (a : List Val × Mp) : Option (List Val) := if okP (lkM a.2) a.1 then some (ZdW (lkM a.2) a.1) else none
theorem Zs3 {l : List Val} {m : Mp} (h : okP (lkM m) l) : Ycw (l, m) = some (ZdW (lkM m) l) := if_pos h
def szP (l : List Val) : Nat := if ZaW l then B + 1 + Zah l else Zah l
theorem YbP {lk : Lk} {l : List Val} (h : okP lk l) {v : Val} (hv : v ∈ l) :
    (v.ref = false → okP lk v.l ∧ szP v.l < szP l) ∧
    (v.ref = true → ∀ x, lk (Zax v.l).1 = some x → okP lk x ∧ szP x < szP l ∧ ZdW lk x = x) ∧
    (v.ref = true → lk (Zax v.l).1 = none → okP lk (Zax v.l).2.1 ∧ szP (Zax v.l).2.1 < szP l) := by
  have hB : B = 2 ^ 36 := rfl
  have hV : V = 2 ^ 24 := rfl
  obtain ⟨h1, h2, n, h3, h4⟩ := h
  obtain ⟨n', h5, h6⟩ := YcR h3 hv
  have hs := Zc9 hv
  have hp := ZiX v.l
  have hmono : ∀ (y : List Val), Zah y < Zah l → (ZaW y = true → ZaW l = true) → szP y < szP l := by
    intro y hy hh
    unfold szP
    by_cases e : ZaW y = true
    · rw [if_pos e, if_pos (hh e)]; omega
    · rw [if_neg e]; split <;> omega
  refine ⟨fun e => ?_, fun e x hx => ?_, fun e hx => ?_⟩
  · rw [ZpM e] at h5
    obtain ⟨a, b, ha, hb, rfl⟩ := ZeV h5
    refine ⟨⟨by omega, h2, b, hb, by omega⟩, hmono _ hs (fun hh => Zp5 hv (by rw [Val.hasv_eq, hh, Bool.or_true]))⟩
  · obtain ⟨g1, g2⟩ := h2 _ _ hx
    refine ⟨⟨by omega, h2, Zah x, Zpu lk x g2, by omega⟩, ?_, ZtZ lk x g2⟩
    have : ZaW l = true := Zp5 hv (by rw [Val.hasv_eq, e]; rfl)
    unfold szP
    rw [if_pos this, if_neg (by rw [g2]; decide)]
    omega
  · cases e3 : (Zax v.l).2.2 with
    | false => rw [Zt8 e hx e3] at h5; cases h5
    | true =>
      rw [Ztt e hx e3] at h5
      refine ⟨⟨by omega, h2, n', h5, by omega⟩, hmono _ (by omega) (fun _ => Zp5 hv (by rw [Val.hasv_eq, e]; rfl))⟩
theorem Zr0 {lk : Lk} {l : List Val} {n : Nat} (h : ZeP lk l = some n) (hn : n ≤ B) {i : Nat} {v : Val} (hv : l[i]? = some v) {b : Nat} (hb : b ≤ 96) : room b ((ZdW lk (l.take i)).length + (ZvW lk v).length) = some () := by
  have hB : B = 2 ^ 36 := rfl
  have h1 := Ybw h (i + 1)
  rw [Za3 hv, Zqu, List.length_append] at h1
  exact Zpt (by omega) hb
theorem Zz2 (m : Mp) (l : List Val) (k : Nat) (h1 : szP l < k + 1) (h2 : okP (lkM m) l) :
    Zlb (fun v => some v.ref) (below (fun a : List Val × Mp => szP a.1) k Ycw) Zn8 (l.length + 1) l m = some (ZdW (lkM m) l) := by
  have hB : B = 2 ^ 36 := rfl
  have hV : V = 2 ^ 24 := rfl
  unfold Zlb
  have e0 := Zfc (lkM m)
  refine ((congrArg (fun z => Zei _ _ z (0 : Int)) e0.symm).trans (ZbO l (fun b => ZdW (lkM m) b) (fun b v => .inl (b ++ [v])) (fun b => some (ZdW (lkM m) b)) (fun i b => b = l.take i) ?_ ?_ ?_ [] rfl _ (Nat.lt_succ_self _))).trans ?_
  · intro i b v k' hv hlt hb
    subst hb
    have hmem := List.mem_of_getElem? hv
    have hs := Zc9 hmem
    have hm1 := ZjK hmem
    have hl := Zdd l
    have hB2 := h2.1
    obtain ⟨g1, g2, g3⟩ := YbP h2 hmem
    obtain ⟨n, hn, hn2⟩ := h2.2.2
    have hr := Zr0 hn hn2 hv (show 80 ≤ 96 by decide)
    have hi : IntKind.i64.wrap ((i : Int) + 1) = ((i + 1 : Nat) : Int) := Za6 (by omega)
    have bel : ∀ x, okP (lkM m) x → szP x < szP l → below (fun a : List Val × Mp => szP a.1) k Ycw (x, m) = some (ZdW (lkM m) x) := fun x hx hz => (Zb7 (sz := fun a : List Val × Mp => szP a.1) (show szP x < k by omega)).trans (Zs3 hx)
    simp only [ZfW, ZaS hv, Option.bind_some, dlt hlt, cond_true, Val.eta, hi, Bool.cond_self]
    rw [Zqu]
    cases e1 : v.ref
    · obtain ⟨g4, g5⟩ := g1 e1
      rw [Zti e1] at hr ⊢
      simp only [Bool.not_false, cond_true, bel _ g4 g5, Option.bind_some, hr]
    · simp only [Bool.not_true, cond_false, ZlI (show v.tot ≤ B by omega), Option.bind_some]
      cases e2 : Za5 BEq.beq (Zax v.l).1 m with
      | some x =>
        have e2' : lkM m (Zax v.l).1 = some x := e2
        obtain ⟨g4, g5, g6⟩ := g2 e1 x e2'
        rw [ZyU e1 e2'] at hr ⊢
        simp only [Option.isSome_some, cond_true, ZkQ, bel _ g4 g5, Option.bind_some, g6, hr]
      | none =>
        have e2' : lkM m (Zax v.l).1 = none := e2
        obtain ⟨g4, g5⟩ := g3 e1 e2'
        rw [ZzE e1 e2'] at hr ⊢
        simp only [Option.isSome_none, cond_false, bel _ g4 g5, Option.bind_some, hr]
  · intro i b v b' hv hb hs
    cases hs
    rw [Za3 hv, hb]
  · intro b k' hb
    simp only [ZfW, ZnJ, cond_false]
  · rw [Zck (fun (b : List Val) (v : Val) => b ++ [v]), ZeJ]
theorem Yd8 {K : Zaa} (hK : Zcp K) : Zag U (Zab C K) 54 ⟨true, [.ty 22, .ty 60], [22], Ycw⟩ :=
  Zb4 (U := U) (ak := [.ty 22, .ty 60]) (rts := [22]) (fun a : List Val × Mp => szP a.1) Ycw fun k ih => Zm9 (kf hK 54 (by decide)) _ _ _ (ZsO hK) ih (Zs1 hK) _ fun a r h => by
    obtain ⟨h1, h2⟩ := ZbB h
    unfold Ycw at h2
    split at h2
    · rename_i h3; cases h2; exact ⟨_, Zz2 a.2 a.1 k h1 h3⟩
    · cases h2
end Go.Tev.S1
namespace Go.Tev.S1
open Go.Abs Go.Proofs
abbrev T4a : Type := (List UInt8) → Option Bool
abbrev T4b : Type := (List Cus) → Option Bool
abbrev T4c : Type := (List Val) → Option Int
abbrev T4d : Type := (List Val) → Option Bool
abbrev T4e : Type := (List Val) × Int → Option Int
abbrev P4a (K : Zaa) (t : T4a) : Prop := Zag U (Zab C K) 61 ⟨true, [.ty 9], [4], t⟩
abbrev P4b (K : Zaa) (t : T4a) : Prop := Zag U (Zab C K) 48 ⟨true, [.ty 9], [4], t⟩
abbrev P4c (K : Zaa) (t : T4b) : Prop := Zag U (Zab C K) 42 ⟨true, [.ty 23], [4], t⟩
abbrev P4d (K : Zaa) (t : T4c) : Prop := Zag U (Zab C K) 33 ⟨true, [.ty 22], [28], t⟩
abbrev P4e (K : Zaa) (t : T4d) : Prop := Zag U (Zab C K) 14 ⟨true, [.ty 22], [4], t⟩
abbrev P4f (K : Zaa) (t : T4c) : Prop := Zag U (Zab C K) 44 ⟨true, [.ty 22], [3], t⟩
abbrev P4g (K : Zaa) (t : T4b) : Prop := Zag U (Zab C K) 29 ⟨true, [.ty 23], [4], t⟩
abbrev P4h (K : Zaa) (t : T4c) : Prop := Zag U (Zab C K) 30 ⟨true, [.ty 22], [3], t⟩
abbrev P4i (K : Zaa) (t : T4d) : Prop := Zag U (Zab C K) 31 ⟨true, [.ty 22], [4], t⟩
abbrev P4j (K : Zaa) (t : T4c) : Prop := Zag U (Zab C K) 32 ⟨true, [.ty 22], [3], t⟩
abbrev P4k (K : Zaa) (t : T4d) : Prop := Zag U (Zab C K) 9 ⟨true, [.ty 22], [4], t⟩
abbrev P4l (K : Zaa) (t : T4e) : Prop := Zag U (Zab C K) 27 ⟨true, [.ty 22, .ty 3], [3], t⟩
def Zet (qa : T4a) {R : Type} (n : Nat) (a6 : List Cus) (a7 : Int) (kx0 : Bool → Option R) (kr : Bool → Option R) (y2 : Bool) (y3 : List UInt8) (y8 : Int) (k : Bool → List UInt8 → Int → Option R) : Option R :=
  cond (decide (y8 < a7))
  (Option.bind (ZdC a6 y8) fun x3 =>
  Option.bind (qa x3.name) fun r4 =>
  Option.bind (some (cond (!r4) true (Op.bytesLess x3.name y3 || x3.name == y3))) fun m5 =>
  cond m5
  (kr false)
  (k y2 x3.name (IntKind.i64.wrap (y8 + (1 : Int)))))
  (kx0 y2)
def Zg8 (qa : T4a) (n : Nat) (p0 : List Cus) : Option Bool :=
  ZqF (Zet qa n p0 (p0.length : Int) (fun z1 =>
  some true) (fun z2 =>
  some z2)) n false [] (0 : Int)
abbrev Zqr (qa : T4a) : List (Nat × TCall X) := [(61, ⟨true, [.ty 9], [4], qa⟩)]
noncomputable abbrev Zce (qa : T4a) : Cx := ⟨C, U, Zqr qa, [], fun _ => []⟩
theorem Zpw : okF (C.ann 42) Tryz.f42 1 = true := by kernel_rfl
abbrev vars_named_L0_D : LD := ⟨0, [.val 6 23, .val 7 2], [.val 2 4, .val 3 9, .val 8 2], [(0, [.val 2 4])], [.val 2 4]⟩
abbrev Zdx (qa : T4a) (n : Nat) : LG U (PX X [4]) vars_named_L0_D := fun c kx kr y k => Zet qa n c.1 c.2.1 (fun z0 => kx 0 (z0, ())) (fun z0 => kr (z0, ())) y.1 y.2.1 y.2.2.1 (fun z0 z1 z2 => k (z0, z1, z2, ()))
noncomputable abbrev Zdv (qa : T4a) (n : Nat) : Zek (Zce qa) (PX X [4]) := [(0, Zeo U vars_named_L0_D (Zdx qa n) n)]
theorem Zmk (qa : T4a) (n : Nat) : ∀ c kx kr y k1, evL (Zce qa) (ann 42) (Zdv qa n) 0 (Zaj (Zac Tryz.f42) 0) (ZdT U vars_named_L0_D kx kr k1) (encS U vars_named_L0_D.cap vars_named_L0_D.din c y) = Zdx qa n c (fun i z => kx i c z) kr y (fun y2 => k1 c y2) := by
  intro c kx kr y k1
  kernel_rfl
theorem ZqH (qa : T4a) (n : Nat) : ∀ a, fnL (Zce qa) true 42 Tryz.f42 [.ty 23] [4] (Zdv qa n) a = Zg8 qa n a := by
  intro a
  kernel_rfl
theorem ZiV {K : Zaa} (qa : T4a) (h0 : P4a K qa) : CallsOk (Zce qa) (Zab C K) :=
  ⟨(Zae h0 Zaw), Zav⟩
theorem Zkd {K : Zaa} (qa : T4a) (h0 : P4a K qa) (n : Nat) (b0 : Base) (bn0 : b0.nr ≤ 0) : Law (Zce qa) b0 (Zab C K) (ann 42) n (Zaj (Zac Tryz.f42) 0) (Zeo U vars_named_L0_D (Zdx qa n) n) :=
  Zcf (x := Zce qa) (id := 0) ok (ZiV qa h0) (sums := Zdv qa n) (Zal (show Zak 0 (Zaj (Zac Tryz.f42) 0) = [] by kernel_rfl)) vars_named_L0_D bn0 (Zdx qa n) (Zmk qa n)
theorem Zk4 {K : Zaa} (hK : ∀ args h, K 42 args h = none) (qa : T4a) (h0 : P4a K qa) (t : PX X (AK.tys [.ty 23]) → Option (PX X [4])) (h : ∀ a r, t a = some r → ∃ n, Zg8 qa n a = some r) : Zag U (Zab C K) 42 ⟨true, [.ty 23], [4], t⟩ := by
  refine Zap (x := Zce qa) (ak := [.ty 23]) (rts := [4]) (dir := true) ok (ZiV qa h0) hK Tryz.func42 Zpw fun a r hr => ?_
  obtain ⟨n, hn⟩ := h a r hr
  exact ⟨n, Zdv qa n, (ZaV (ids := [0]) (by kernel_rfl) (by decide) (fun i hi => by
    simp only [List.mem_cons, List.not_mem_nil, or_false] at hi
    rcases hi with rfl
    · exact ZaR (c2 := Zaj (Zac Tryz.f42) 0) (by kernel_rfl) (by kernel_rfl) (Zkd qa h0 _ _ (Nat.le_refl _))
    )), (ZqH qa n a).trans hn⟩
def Zef (qb : T4a) {R : Type} (n : Nat) (a0 : List Cus) (kx0 : Bool → Option R) (kr : Bool → Option R) (y2 : Bool) (y3 : Int) (k : Bool → Int → Option R) : Option R :=
  cond (decide (y3 < (a0.length : Int)))
  (Option.bind (ZdC a0 y3) fun x3 =>
  Option.bind (qb x3.name) fun r4 =>
  Option.bind (cond ((!(!r4)) && (decide (y3 > (0 : Int)))) (ZdC a0 (IntKind.i64.wrap (y3 - (1 : Int)))) (some Ydb)) fun x5 =>
  Option.bind (cond ((!(!r4)) && (decide (y3 > (0 : Int)))) (ZdC a0 y3) (some Ydb)) fun x6 =>
  Option.bind (cond (!(!r4)) (some (cond (decide (y3 > (0 : Int))) (!Op.bytesLess x5.name x6.name) false)) (some (!Op.bytesLess x5.name x6.name))) fun m7 =>
  Option.bind (some (cond (!r4) true m7)) fun m8 =>
  cond m8
  (kr false)
  (k y2 (IntKind.i64.wrap (y3 + (1 : Int)))))
  (kx0 y2)
def Zgo (qb : T4a) (n : Nat) (p0 : List Cus) : Option Bool :=
  Zei (Zef qb n p0 (fun z1 =>
  some true) (fun z2 =>
  some z2)) n false (0 : Int)
abbrev ZpD (qb : T4a) : List (Nat × TCall X) := [(48, ⟨true, [.ty 9], [4], qb⟩)]
noncomputable abbrev Zb1 (qb : T4a) : Cx := ⟨C, U, ZpD qb, [], fun _ => []⟩
theorem Zm4 : okF (C.ann 29) Tryz.f29 1 = true := by kernel_rfl
abbrev ref30_named_L0_D : LD := ⟨0, [.val 0 23], [.val 2 4, .val 3 2], [(0, [.val 2 4])], [.val 2 4]⟩
abbrev ZcW (qb : T4a) (n : Nat) : LG U (PX X [4]) ref30_named_L0_D := fun c kx kr y k => Zef qb n c.1 (fun z0 => kx 0 (z0, ())) (fun z0 => kr (z0, ())) y.1 y.2.1 (fun z0 z1 => k (z0, z1, ()))
noncomputable abbrev ZcN (qb : T4a) (n : Nat) : Zek (Zb1 qb) (PX X [4]) := [(0, Zeo U ref30_named_L0_D (ZcW qb n) n)]
theorem ZkX (qb : T4a) (n : Nat) : ∀ c kx kr y k1, evL (Zb1 qb) (ann 29) (ZcN qb n) 0 (Zaj (Zac Tryz.f29) 0) (ZdT U ref30_named_L0_D kx kr k1) (encS U ref30_named_L0_D.cap ref30_named_L0_D.din c y) = ZcW qb n c (fun i z => kx i c z) kr y (fun y2 => k1 c y2) := by
  intro c kx kr y k1
  kernel_rfl
theorem Zpz (qb : T4a) (n : Nat) : ∀ a, fnL (Zb1 qb) true 29 Tryz.f29 [.ty 23] [4] (ZcN qb n) a = Zgo qb n a := by
  intro a
  kernel_rfl
theorem ZhW {K : Zaa} (qb : T4a) (h0 : P4b K qb) : CallsOk (Zb1 qb) (Zab C K) :=
  ⟨(Zae h0 Zaw), Zav⟩
theorem ZiG {K : Zaa} (qb : T4a) (h0 : P4b K qb) (n : Nat) (b0 : Base) (bn0 : b0.nr ≤ 0) : Law (Zb1 qb) b0 (Zab C K) (ann 29) n (Zaj (Zac Tryz.f29) 0) (Zeo U ref30_named_L0_D (ZcW qb n) n) :=
  Zcf (x := Zb1 qb) (id := 0) ok (ZhW qb h0) (sums := ZcN qb n) (Zal (show Zak 0 (Zaj (Zac Tryz.f29) 0) = [] by kernel_rfl)) ref30_named_L0_D bn0 (ZcW qb n) (ZkX qb n)
theorem Zj3 {K : Zaa} (hK : ∀ args h, K 29 args h = none) (qb : T4a) (h0 : P4b K qb) (t : PX X (AK.tys [.ty 23]) → Option (PX X [4])) (h : ∀ a r, t a = some r → ∃ n, Zgo qb n a = some r) : Zag U (Zab C K) 29 ⟨true, [.ty 23], [4], t⟩ := by
  refine Zap (x := Zb1 qb) (ak := [.ty 23]) (rts := [4]) (dir := true) ok (ZhW qb h0) hK Tryz.func29 Zm4 fun a r hr => ?_
  obtain ⟨n, hn⟩ := h a r hr
  exact ⟨n, ZcN qb n, (ZaV (ids := [0]) (by kernel_rfl) (by decide) (fun i hi => by
    simp only [List.mem_cons, List.not_mem_nil, or_false] at hi
    rcases hi with rfl
    · exact ZaR (c2 := Zaj (Zac Tryz.f29) 0) (by kernel_rfl) (by kernel_rfl) (ZiG qb h0 _ _ (Nat.le_refl _))
    )), (Zpz qb n a).trans hn⟩
def ZeH (qc : T4b) (qd : T4c) (qe : T4d) (qf : T4c) {R : Type} (n : Nat) (a13 : List Cus) (a14 : Int) (kx0 : Int → Option R) (kr : Int → Option R) (y2 : Int) (y15 : Int) (k : Int → Int → Option R) : Option R :=
  cond (decide (y15 < a14))
  (Option.bind (ZdC a13 y15) fun x5 =>
  Option.bind (qd x5.val) fun r6 =>
  Option.bind (cond (!(r6 != (0 : Int))) (qe x5.val) (some false)) fun r7 =>
  Option.bind (some (cond (r6 != (0 : Int)) true r7)) fun m8 =>
  Option.bind (cond (!m8) (qf x5.val) (some (0 : Int))) fun r9 =>
  Option.bind (some (cond m8 true (decide (r9 > (2000 : Int))))) fun m10 =>
  cond m10
  (kr (8 : Int))
  (k y2 (IntKind.i64.wrap (y15 + (1 : Int)))))
  (kx0 y2)
def Zg3 (qc : T4b) (qd : T4c) (qe : T4d) (qf : T4c) (n : Nat) (p0 : List Cus) : Option Int :=
  Option.bind (cond (!(decide ((p0.length : Int) > (64 : Int)))) (qc p0) (some false)) fun r1 =>
  Option.bind (some (cond (decide ((p0.length : Int) > (64 : Int))) true (!r1))) fun m2 =>
  cond m2
  (some (8 : Int))
  (Zei (ZeH qc qd qe qf n p0 (p0.length : Int) (fun z3 =>
  some (0 : Int)) (fun z4 =>
  some z4)) n (0 : Int) (0 : Int))
abbrev Zr5 (qc : T4b) (qd : T4c) (qe : T4d) (qf : T4c) : List (Nat × TCall X) := [(42, ⟨true, [.ty 23], [4], qc⟩), (33, ⟨true, [.ty 22], [28], qd⟩), (14, ⟨true, [.ty 22], [4], qe⟩), (44, ⟨true, [.ty 22], [3], qf⟩)]
noncomputable abbrev Zcm (qc : T4b) (qd : T4c) (qe : T4d) (qf : T4c) : Cx := ⟨C, U, Zr5 qc qd qe qf, [], fun _ => []⟩
theorem Zpg : okF (C.ann 22) Tryz.f22 1 = true := by kernel_rfl
abbrev vars_Check_L0_D : LD := ⟨0, [.val 13 23, .val 14 2], [.val 2 2, .val 15 2], [(0, [.val 2 2])], [.val 2 28]⟩
abbrev ZdF (qc : T4b) (qd : T4c) (qe : T4d) (qf : T4c) (n : Nat) : LG U (PX X [28]) vars_Check_L0_D := fun c kx kr y k => ZeH qc qd qe qf n c.1 c.2.1 (fun z0 => kx 0 (z0, ())) (fun z0 => kr (z0, ())) y.1 y.2.1 (fun z0 z1 => k (z0, z1, ()))
noncomputable abbrev ZdH (qc : T4b) (qd : T4c) (qe : T4d) (qf : T4c) (n : Nat) : Zek (Zcm qc qd qe qf) (PX X [28]) := [(0, Zeo U vars_Check_L0_D (ZdF qc qd qe qf n) n)]
theorem ZmD (qc : T4b) (qd : T4c) (qe : T4d) (qf : T4c) (n : Nat) : ∀ c kx kr y k1, evL (Zcm qc qd qe qf) (ann 22) (ZdH qc qd qe qf n) 0 (Zaj (Zac Tryz.f22) 0) (ZdT U vars_Check_L0_D kx kr k1) (encS U vars_Check_L0_D.cap vars_Check_L0_D.din c y) = ZdF qc qd qe qf n c (fun i z => kx i c z) kr y (fun y2 => k1 c y2) := by
  intro c kx kr y k1
  kernel_rfl
theorem ZqG (qc : T4b) (qd : T4c) (qe : T4d) (qf : T4c) (n : Nat) : ∀ a, fnL (Zcm qc qd qe qf) true 22 Tryz.f22 [.ty 23] [28] (ZdH qc qd qe qf n) a = Zg3 qc qd qe qf n a := by
  intro a
  kernel_rfl
theorem Zjf {K : Zaa} (qc : T4b) (qd : T4c) (qe : T4d) (qf : T4c) (h0 : P4c K qc) (h1 : P4d K qd) (h2 : P4e K qe) (h3 : P4f K qf) : CallsOk (Zcm qc qd qe qf) (Zab C K) :=
  ⟨(Zae h0 (Zae h1 (Zae h2 (Zae h3 Zaw)))), Zav⟩
theorem ZjH {K : Zaa} (qc : T4b) (qd : T4c) (qe : T4d) (qf : T4c) (h0 : P4c K qc) (h1 : P4d K qd) (h2 : P4e K qe) (h3 : P4f K qf) (n : Nat) (b0 : Base) (bn0 : b0.nr ≤ 0) : Law (Zcm qc qd qe qf) b0 (Zab C K) (ann 22) n (Zaj (Zac Tryz.f22) 0) (Zeo U vars_Check_L0_D (ZdF qc qd qe qf n) n) :=
  Zcf (x := Zcm qc qd qe qf) (id := 0) ok (Zjf qc qd qe qf h0 h1 h2 h3) (sums := ZdH qc qd qe qf n) (Zal (show Zak 0 (Zaj (Zac Tryz.f22) 0) = [] by kernel_rfl)) vars_Check_L0_D bn0 (ZdF qc qd qe qf n) (ZmD qc qd qe qf n)
theorem Zk2 {K : Zaa} (hK : ∀ args h, K 22 args h = none) (qc : T4b) (qd : T4c) (qe : T4d) (qf : T4c) (h0 : P4c K qc) (h1 : P4d K qd) (h2 : P4e K qe) (h3 : P4f K qf) (t : PX X (AK.tys [.ty 23]) → Option (PX X [28])) (h : ∀ a r, t a = some r → ∃ n, Zg3 qc qd qe qf n a = some r) : Zag U (Zab C K) 22 ⟨true, [.ty 23], [28], t⟩ := by
  refine Zap (x := Zcm qc qd qe qf) (ak := [.ty 23]) (rts := [28]) (dir := true) ok (Zjf qc qd qe qf h0 h1 h2 h3) hK Tryz.func22 Zpg fun a r hr => ?_
  obtain ⟨n, hn⟩ := h a r hr
  exact ⟨n, ZdH qc qd qe qf n, (ZaV (ids := [0]) (by kernel_rfl) (by decide) (fun i hi => by
    simp only [List.mem_cons, List.not_mem_nil, or_false] at hi
    rcases hi with rfl
    · exact ZaR (c2 := Zaj (Zac Tryz.f22) 0) (by kernel_rfl) (by kernel_rfl) (ZjH qc qd qe qf h0 h1 h2 h3 _ _ (Nat.le_refl _))
    )), (ZqG qc qd qe qf n a).trans hn⟩
def Zee (qg : T4b) (qh : T4c) (qi : T4d) (qj : T4c) {R : Type} (n : Nat) (a0 : List Cus) (kx0 : Int → Option R) (kr : Int → Option R) (y2 : Int) (y3 : Int) (k : Int → Int → Option R) : Option R :=
  cond (decide (y3 < (a0.length : Int)))
  (Option.bind (ZdC a0 y3) fun x5 =>
  Option.bind (qh x5.val) fun r6 =>
  Option.bind (cond (!(r6 != (0 : Int))) (ZdC a0 y3) (some Ydb)) fun x7 =>
  Option.bind (cond (!(r6 != (0 : Int))) (qi x7.val) (some false)) fun r8 =>
  Option.bind (some (cond (r6 != (0 : Int)) true r8)) fun m9 =>
  Option.bind (cond (!m9) (ZdC a0 y3) (some Ydb)) fun x10 =>
  Option.bind (cond (!m9) (qj x10.val) (some (0 : Int))) fun r11 =>
  Option.bind (some (cond m9 true (decide (r11 > (2000 : Int))))) fun m12 =>
  cond m12
  (kr (8 : Int))
  (k y2 (IntKind.i64.wrap (y3 + (1 : Int)))))
  (kx0 y2)
def Zf2 (qg : T4b) (qh : T4c) (qi : T4d) (qj : T4c) (n : Nat) (p0 : List Cus) : Option Int :=
  Option.bind (cond (!(decide ((p0.length : Int) > (64 : Int)))) (qg p0) (some false)) fun r1 =>
  Option.bind (some (cond (decide ((p0.length : Int) > (64 : Int))) true (!r1))) fun m2 =>
  cond m2
  (some (8 : Int))
  (Zei (Zee qg qh qi qj n p0 (fun z3 =>
  some (0 : Int)) (fun z4 =>
  some z4)) n (0 : Int) (0 : Int))
abbrev ZoF (qg : T4b) (qh : T4c) (qi : T4d) (qj : T4c) : List (Nat × TCall X) := [(29, ⟨true, [.ty 23], [4], qg⟩), (30, ⟨true, [.ty 22], [3], qh⟩), (31, ⟨true, [.ty 22], [4], qi⟩), (32, ⟨true, [.ty 22], [3], qj⟩)]
noncomputable abbrev Zb0 (qg : T4b) (qh : T4c) (qi : T4d) (qj : T4c) : Cx := ⟨C, U, ZoF qg qh qi qj, [], fun _ => []⟩
theorem Znw : okF (C.ann 11) Tryz.f11 1 = true := by kernel_rfl
abbrev ref30_Check_L0_D : LD := ⟨0, [.val 0 23], [.val 2 2, .val 3 2], [(0, [.val 2 2])], [.val 2 3]⟩
abbrev Zc0 (qg : T4b) (qh : T4c) (qi : T4d) (qj : T4c) (n : Nat) : LG U (PX X [3]) ref30_Check_L0_D := fun c kx kr y k => Zee qg qh qi qj n c.1 (fun z0 => kx 0 (z0, ())) (fun z0 => kr (z0, ())) y.1 y.2.1 (fun z0 z1 => k (z0, z1, ()))
noncomputable abbrev ZcP (qg : T4b) (qh : T4c) (qi : T4d) (qj : T4c) (n : Nat) : Zek (Zb0 qg qh qi qj) (PX X [3]) := [(0, Zeo U ref30_Check_L0_D (Zc0 qg qh qi qj n) n)]
theorem ZkS (qg : T4b) (qh : T4c) (qi : T4d) (qj : T4c) (n : Nat) : ∀ c kx kr y k1, evL (Zb0 qg qh qi qj) (ann 11) (ZcP qg qh qi qj n) 0 (Zaj (Zac Tryz.f11) 0) (ZdT U ref30_Check_L0_D kx kr k1) (encS U ref30_Check_L0_D.cap ref30_Check_L0_D.din c y) = Zc0 qg qh qi qj n c (fun i z => kx i c z) kr y (fun y2 => k1 c y2) := by
  intro c kx kr y k1
  kernel_rfl
theorem Zpl (qg : T4b) (qh : T4c) (qi : T4d) (qj : T4c) (n : Nat) : ∀ a, fnL (Zb0 qg qh qi qj) true 11 Tryz.f11 [.ty 23] [3] (ZcP qg qh qi qj n) a = Zf2 qg qh qi qj n a := by
  intro a
  kernel_rfl
theorem ZhM {K : Zaa} (qg : T4b) (qh : T4c) (qi : T4d) (qj : T4c) (h0 : P4g K qg) (h1 : P4h K qh) (h2 : P4i K qi) (h3 : P4j K qj) : CallsOk (Zb0 qg qh qi qj) (Zab C K) :=
  ⟨(Zae h0 (Zae h1 (Zae h2 (Zae h3 Zaw)))), Zav⟩
theorem Zis {K : Zaa} (qg : T4b) (qh : T4c) (qi : T4d) (qj : T4c) (h0 : P4g K qg) (h1 : P4h K qh) (h2 : P4i K qi) (h3 : P4j K qj) (n : Nat) (b0 : Base) (bn0 : b0.nr ≤ 0) : Law (Zb0 qg qh qi qj) b0 (Zab C K) (ann 11) n (Zaj (Zac Tryz.f11) 0) (Zeo U ref30_Check_L0_D (Zc0 qg qh qi qj n) n) :=
  Zcf (x := Zb0 qg qh qi qj) (id := 0) ok (ZhM qg qh qi qj h0 h1 h2 h3) (sums := ZcP qg qh qi qj n) (Zal (show Zak 0 (Zaj (Zac Tryz.f11) 0) = [] by kernel_rfl)) ref30_Check_L0_D bn0 (Zc0 qg qh qi qj n) (ZkS qg qh qi qj n)
theorem Zjx {K : Zaa} (hK : ∀ args h, K 11 args h = none) (qg : T4b) (qh : T4c) (qi : T4d) (qj : T4c) (h0 : P4g K qg) (h1 : P4h K qh) (h2 : P4i K qi) (h3 : P4j K qj) (t : PX X (AK.tys [.ty 23]) → Option (PX X [3])) (h : ∀ a r, t a = some r → ∃ n, Zf2 qg qh qi qj n a = some r) : Zag U (Zab C K) 11 ⟨true, [.ty 23], [3], t⟩ := by
  refine Zap (x := Zb0 qg qh qi qj) (ak := [.ty 23]) (rts := [3]) (dir := true) ok (ZhM qg qh qi qj h0 h1 h2 h3) hK Tryz.func11 Znw fun a r hr => ?_
  obtain ⟨n, hn⟩ := h a r hr
  exact ⟨n, ZcP qg qh qi qj n, (ZaV (ids := [0]) (by kernel_rfl) (by decide) (fun i hi => by
    simp only [List.mem_cons, List.not_mem_nil, or_false] at hi
    rcases hi with rfl
    · exact ZaR (c2 := Zaj (Zac Tryz.f11) 0) (by kernel_rfl) (by kernel_rfl) (Zis qg qh qi qj h0 h1 h2 h3 _ _ (Nat.le_refl _))
    )), (Zpl qg qh qi qj n a).trans hn⟩
def ZcM (qk : T4d) (ql : T4e) {R : Type} (n : Nat) (a0 : List Cus) (kx0 : Bool → Int → Option R) (kr : Bool → Option R) (y2 : Bool) (y3 : Int) (y4 : Int) (k : Bool → Int → Int → Option R) : Option R :=
  Option.bind (some (cond (decide (y4 < (a0.length : Int))) (decide (y4 ≤ (70 : Int))) false)) fun m5 =>
  cond m5
  (Option.bind (ZdC a0 y4) fun x6 =>
  Option.bind (qk x6.val) fun r7 =>
  Option.bind (cond (!r7) (ZdC a0 y4) (some Ydb)) fun x8 =>
  Option.bind (some (cond r7 true (decide ((x8.name.length : Int) > (100 : Int))))) fun m9 =>
  cond m9
  (kr true)
  (Option.bind (ZdC a0 y4) fun x10 =>
  Option.bind (ql (x10.val, (300 : Int))) fun r11 =>
  k y2 (IntKind.i64.wrap (y3 + r11)) (IntKind.i64.wrap (y4 + (1 : Int)))))
  (kx0 y2 y3)
def Zgh (qk : T4d) (ql : T4e) (n : Nat) (p0 : List Cus) : Option Bool :=
  ZqF (ZcM qk ql n p0 (fun z1 z2 =>
  Option.bind (some (cond (decide ((p0.length : Int) > (70 : Int))) true (decide (z2 > (1500 : Int))))) fun m3 =>
  some m3) (fun z4 =>
  some z4)) n false (0 : Int) (0 : Int)
abbrev ZpX (qk : T4d) (ql : T4e) : List (Nat × TCall X) := [(9, ⟨true, [.ty 22], [4], qk⟩), (27, ⟨true, [.ty 22, .ty 3], [3], ql⟩)]
noncomputable abbrev ZbU (qk : T4d) (ql : T4e) : Cx := ⟨C, U, ZpX qk ql, [], fun _ => []⟩
theorem Znh : okF (C.ann 10) Tryz.f10 1 = true := by kernel_rfl
abbrev ref30_Great_L0_D : LD := ⟨0, [.val 0 23], [.val 2 4, .val 3 2, .val 4 2], [(0, [.val 2 4, .val 3 2])], [.val 2 4]⟩
abbrev Zc2 (qk : T4d) (ql : T4e) (n : Nat) : LG U (PX X [4]) ref30_Great_L0_D := fun c kx kr y k => ZcM qk ql n c.1 (fun z0 z1 => kx 0 (z0, z1, ())) (fun z0 => kr (z0, ())) y.1 y.2.1 y.2.2.1 (fun z0 z1 z2 => k (z0, z1, z2, ()))
noncomputable abbrev ZcX (qk : T4d) (ql : T4e) (n : Nat) : Zek (ZbU qk ql) (PX X [4]) := [(0, Zeo U ref30_Great_L0_D (Zc2 qk ql n) n)]
theorem ZkL (qk : T4d) (ql : T4e) (n : Nat) : ∀ c kx kr y k1, evL (ZbU qk ql) (ann 10) (ZcX qk ql n) 0 (Zaj (Zac Tryz.f10) 0) (ZdT U ref30_Great_L0_D kx kr k1) (encS U ref30_Great_L0_D.cap ref30_Great_L0_D.din c y) = Zc2 qk ql n c (fun i z => kx i c z) kr y (fun y2 => k1 c y2) := by
  intro c kx kr y k1
  kernel_rfl
theorem ZoI (qk : T4d) (ql : T4e) (n : Nat) : ∀ a, fnL (ZbU qk ql) true 10 Tryz.f10 [.ty 23] [4] (ZcX qk ql n) a = Zgh qk ql n a := by
  intro a
  kernel_rfl
theorem ZhN {K : Zaa} (qk : T4d) (ql : T4e) (h0 : P4k K qk) (h1 : P4l K ql) : CallsOk (ZbU qk ql) (Zab C K) :=
  ⟨(Zae h0 (Zae h1 Zaw)), Zav⟩
theorem Zi3 {K : Zaa} (qk : T4d) (ql : T4e) (h0 : P4k K qk) (h1 : P4l K ql) (n : Nat) (b0 : Base) (bn0 : b0.nr ≤ 0) : Law (ZbU qk ql) b0 (Zab C K) (ann 10) n (Zaj (Zac Tryz.f10) 0) (Zeo U ref30_Great_L0_D (Zc2 qk ql n) n) :=
  Zcf (x := ZbU qk ql) (id := 0) ok (ZhN qk ql h0 h1) (sums := ZcX qk ql n) (Zal (show Zak 0 (Zaj (Zac Tryz.f10) 0) = [] by kernel_rfl)) ref30_Great_L0_D bn0 (Zc2 qk ql n) (ZkL qk ql n)
theorem ZjS {K : Zaa} (hK : ∀ args h, K 10 args h = none) (qk : T4d) (ql : T4e) (h0 : P4k K qk) (h1 : P4l K ql) (t : PX X (AK.tys [.ty 23]) → Option (PX X [4])) (h : ∀ a r, t a = some r → ∃ n, Zgh qk ql n a = some r) : Zag U (Zab C K) 10 ⟨true, [.ty 23], [4], t⟩ := by
  refine Zap (x := ZbU qk ql) (ak := [.ty 23]) (rts := [4]) (dir := true) ok (ZhN qk ql h0 h1) hK Tryz.func10 Znh fun a r hr => ?_
  obtain ⟨n, hn⟩ := h a r hr
  exact ⟨n, ZcX qk ql n, (ZaV (ids := [0]) (by kernel_rfl) (by decide) (fun i hi => by
    simp only [List.mem_cons, List.not_mem_nil, or_false] at hi
    rcases hi with rfl
    · exact ZaR (c2 := Zaj (Zac Tryz.f10) 0) (by kernel_rfl) (by kernel_rfl) (Zi3 qk ql h0 h1 _ _ (Nat.le_refl _))
    )), (ZoI qk ql n a).trans hn⟩
end Go.Tev.S1
namespace Go.Tev
open Go.Abs
theorem Zmw (a : List UInt8) : Op.bytesLess a a = false := by
  induction a with
  | nil => rfl
  | cons x a ih => rw [Op.bytesLess, ih]; simp
theorem Zt4 (a b : List UInt8) : (!(Op.bytesLess a b || a == b)) = Op.bytesLess b a := by
  induction a generalizing b with
  | nil => cases b <;> rfl
  | cons x a ih => cases b with
    | nil => rfl
    | cons y b =>
      have := ih b
      rw [Op.bytesLess, Op.bytesLess, ← this, List.cons_beq_cons]
      by_cases h1 : x = y
      · subst h1
        have : decide (x < x) = false := by simp
        rw [this]
        simp
      · have h2 : (x == y) = false := by simpa using h1
        have h3 : (y == x) = false := by simpa using fun h => h1 h.symm
        rw [h2, h3]
        simp only [Bool.false_and, Bool.or_false]
        rw [← decide_not]
        congr 1
        rw [UInt8.lt_iff_toNat_lt, UInt8.lt_iff_toNat_lt]
        have : x.toNat ≠ y.toNat := fun h => h1 (UInt8.toNat_inj.1 h)
        apply propext
        omega
theorem Zoc {a b c : List UInt8} (h1 : Op.bytesLess a b = true) (h2 : Op.bytesLess b c = true) : Op.bytesLess a c = true := by
  induction a generalizing b c with
  | nil => cases c with
    | nil => cases b <;> simp [Op.bytesLess] at h2
    | cons => rfl
  | cons x a ih => cases b with
    | nil => simp [Op.bytesLess] at h1
    | cons y b => cases c with
      | nil => simp [Op.bytesLess] at h2
      | cons z c =>
        rw [Op.bytesLess, Bool.or_eq_true, Bool.and_eq_true, decide_eq_true_iff, beq_iff_eq] at h1 h2 ⊢
        rcases h1 with h1 | ⟨h1, h1'⟩
        · rcases h2 with h2 | ⟨h2, h2'⟩
          · left; rw [UInt8.lt_iff_toNat_lt] at *; omega
          · left; rw [← h2]; exact h1
        · rcases h2 with h2 | ⟨h2, h2'⟩
          · left; rw [h1]; exact h2
          · right; exact ⟨h1.trans h2, ih h1' h2'⟩
def namL : Option (List UInt8) → List Cus → Bool
  | _, [] => true
  | p, c :: r => Za1 c.name && (match p with
    | none => true
    | some q => Op.bytesLess q c.name) && namL (some c.name) r
theorem ZxE {n : List UInt8} (h : Za1 n = true) : n ≠ [] := by
  intro e; subst e; simp [Za1] at h
theorem YcE {q : List UInt8} {c : List Cus} (h : namL (some q) c = true) : ∀ x ∈ c, Op.bytesLess q x.name = true := by
  induction c generalizing q with
  | nil => intro x hx; cases hx
  | cons y c ih =>
    rw [namL, Bool.and_eq_true, Bool.and_eq_true] at h
    intro x hx
    rcases List.mem_cons.1 hx with rfl | hx
    · exact h.1.2
    · exact Zoc h.1.2 (ih h.2 x hx)
theorem Zwl {p : Option (List UInt8)} {y : Cus} {c : List Cus} (h : namL p (y :: c) = true) : (∀ x ∈ c, x.name ≠ y.name) ∧ namL (some y.name) c = true := by
  have h2 : namL (some y.name) c = true := by
    rw [namL.eq_def] at h
    simp only [Bool.and_eq_true] at h
    exact h.2
  refine ⟨fun x hx e => ?_, h2⟩
  have := YcE h2 x hx
  rw [e, Zmw] at this
  cases this
def YbB (c : List Cus) : List (List UInt8 × List Val) := c.foldl (fun h x => ZgB BEq.beq x.name x.val h) []
theorem Zrm (n k : List UInt8) (x : List Val) : ∀ h : List (List UInt8 × List Val), Za5 BEq.beq k (ZgB BEq.beq n x h) = if k == n then some x else Za5 BEq.beq k h
  | [] => by
    simp only [ZgB, Za5]
    cases (k == n) <;> rfl
  | (k', u) :: r => by
    simp only [ZgB]
    cases e : (n == k')
    · simp only [cond_false, Za5]
      rw [Zrm n k x r]
      cases e2 : (k == k')
      · simp
      · simp only [cond_true]
        have h1 : k = k' := by simpa using e2
        have h2 : (k == n) = false := by rw [h1]; rw [beq_eq_false_iff_ne] at e ⊢; exact fun h => e h.symm
        rw [h2]; rfl
    · simp only [cond_true, Za5]
      have h1 : n = k' := by simpa using e
      rw [h1]
      cases e2 : (k == k') <;> rfl
theorem Zy6 {n : List UInt8} {x : List Val} {h : List (List UInt8 × List Val)} {p : List UInt8 × List Val} (hp : p ∈ ZgB BEq.beq n x h) : p = (n, x) ∨ p ∈ h := by
  induction h with
  | nil => simp only [ZgB, List.mem_singleton] at hp; exact .inl hp
  | cons q h ih =>
    obtain ⟨k', u⟩ := q
    simp only [ZgB] at hp
    cases e : (n == k') <;> rw [e] at hp
    · rcases List.mem_cons.1 hp with rfl | hp
      · exact .inr List.mem_cons_self
      · rcases ih hp with h | h
        · exact .inl h
        · exact .inr (List.mem_cons_of_mem _ h)
    · rcases List.mem_cons.1 hp with rfl | hp
      · exact .inl rfl
      · exact .inr (List.mem_cons_of_mem _ hp)
theorem Yb2 {c : List Cus} {p : List UInt8 × List Val} (hp : p ∈ YbB c) : ∃ x ∈ c, p.2 = x.val := by
  have : ∀ (c : List Cus) (h : List (List UInt8 × List Val)), p ∈ c.foldl (fun h x => ZgB BEq.beq x.name x.val h) h → p ∈ h ∨ ∃ x ∈ c, p.2 = x.val := by
    intro c
    induction c with
    | nil => intro h hp; exact .inl hp
    | cons y c ih =>
      intro h hp
      rcases ih _ hp with h1 | ⟨x, hx, h1⟩
      · rcases Zy6 h1 with rfl | h2
        · exact .inr ⟨y, List.mem_cons_self, rfl⟩
        · exact .inl h2
      · exact .inr ⟨x, List.mem_cons_of_mem _ hx, h1⟩
  rcases this c [] hp with h | h
  · cases h
  · exact h
theorem Ycd {c : List Cus} {p : Option (List UInt8)} (hn : namL p c = true) : lkM (YbB c) = lkC c := by
  have : ∀ (c : List Cus) (p : Option (List UInt8)) (h : List (List UInt8 × List Val)) (k : List UInt8), namL p c = true → Za5 BEq.beq k (c.foldl (fun h x => ZgB BEq.beq x.name x.val h) h) = (match lkC c k with
      | some x => some x
      | none => Za5 BEq.beq k h) := by
    intro c
    induction c with
    | nil => intro p h k _; rfl
    | cons y c ih =>
      intro p h k hn
      obtain ⟨h1, h2⟩ := Zwl hn
      simp only [List.foldl_cons, lkC]
      rw [ih _ _ _ h2, Zrm]
      by_cases e : (y.name == k) = true
      · rw [if_pos e]
        have e1 : y.name = k := by simpa using e
        have e2 : (k == y.name) = true := by simp [e1]
        have e3 : lkC c k = none := by
          cases e3 : lkC c k with
          | none => rfl
          | some x =>
            exfalso
            clear ih hn h2
            induction c with
            | nil => cases e3
            | cons z c ih2 =>
              simp only [lkC] at e3
              split at e3
              · rename_i hz
                have : z.name = k := by simpa using hz
                exact h1 z List.mem_cons_self (this.trans e1.symm)
              · exact ih2 (fun x hx => h1 x (List.mem_cons_of_mem _ hx)) e3
        rw [e3, e2]; rfl
      · rw [if_neg e]
        have e2 : (k == y.name) = false := by
          rw [Bool.not_eq_true, beq_eq_false_iff_ne] at e
          rw [beq_eq_false_iff_ne]; exact fun h => e h.symm
        rw [e2]
        cases lkC c k <;> rfl
  funext k
  unfold lkM YbB
  rw [this c p [] k hn]
  cases lkC c k <;> rfl
end Go.Tev
namespace Go.Tev.S1
open Go.Abs Go.Proofs
def Zmy (c : List Cus) : Option Bool := if c.length ≤ B then some (namL none c) else none
theorem ZqN {c : List Cus} (h : c.length ≤ B) : Zmy c = some (namL none c) := if_pos h
def Zxk (p : Option (List UInt8)) (v : Cus) : Bool := Za1 v.name && (match p with
  | none => true
  | some q => Op.bytesLess q v.name)
theorem ZwL (l : List Cus) : ∀ p, Zm2 (fun (p : Option (List UInt8)) v => if Zxk p v = true then .inl (some v.name) else .inr (some false)) (fun _ => some true) l p = some (namL p l) := by
  induction l with
  | nil => intro p; rw [namL.eq_def]; rfl
  | cons v l ih =>
    intro p
    simp only [Zm2]
    have e : namL p (v :: l) = (Zxk p v && namL (some v.name) l) := by rw [namL.eq_def]; rfl
    rw [e]
    by_cases h : Zxk p v = true
    · rw [if_pos h, h]; exact ih _
    · rw [if_neg h, (Bool.not_eq_true _).mp h]; rfl
def YcP : Option (List UInt8) → List UInt8
  | none => []
  | some q => q
theorem ZvN (c : List Cus) (h : c.length ≤ B) : Zg8 (fun p => some (Za1 p)) (c.length + 1) c = some (namL none c) := by
  have hB : B = 2 ^ 36 := rfl
  unfold Zg8
  refine (Zjw c (fun (_ : Option (List UInt8)) => false) YcP (fun p v => if Zxk p v = true then .inl (some v.name) else .inr (some false)) (fun _ => some true) (fun i b => True) ?_ ?_ ?_ none trivial _ (Nat.lt_succ_self _)).trans (ZwL c none)
  · intro i b v k' hv hlt hb
    have hi : IntKind.i64.wrap ((i : Int) + 1) = ((i + 1 : Nat) : Int) := Za6 (by omega)
    simp only [Zet, ZaS hv, Option.bind_some, dlt hlt, cond_true, hi]
    have key : (bif !Za1 v.name then true else (Op.bytesLess v.name (YcP b) || v.name == YcP b)) = !Zxk b v := by
      unfold Zxk
      cases e1 : Za1 v.name
      · rfl
      · have hne := ZxE e1
        cases b with
        | none =>
          cases e3 : v.name with
          | nil => exact absurd e3 hne
          | cons x r => rfl
        | some q =>
          change (Op.bytesLess v.name q || v.name == q) = !(true && Op.bytesLess q v.name)
          rw [← Zt4 v.name q, Bool.true_and, Bool.not_not]
    rw [key]
    cases Zxk b v <;> rfl
  · intro i b v b' hv hb hs; trivial
  · intro b k' hb
    simp only [Zet, ZnJ, cond_false]
theorem Ycz {K : Zaa} (hK : Zcp K) : Zag U (Zab C K) 42 ⟨true, [.ty 23], [4], Zmy⟩ :=
  Zk4 (kf hK 42 (by decide)) _ (Zub hK) _ fun a r h => by
    unfold Zmy at h
    split at h
    · rename_i h3; cases h; exact ⟨_, ZvN a h3⟩
    · cases h
theorem ZoZ (c : List Cus) (h : c.length ≤ B) : Zgo (fun p => some (Za1 p)) (c.length + 1) c = some (namL none c) := by
  have hB : B = 2 ^ 36 := rfl
  unfold Zgo
  refine (ZbO c (fun (_ : Option (List UInt8)) => false) (fun p v => if Zxk p v = true then .inl (some v.name) else .inr (some false)) (fun _ => some true) (fun i b => b = match i with | 0 => none | j + 1 => (c[j]?).map (·.name)) ?_ ?_ ?_ none rfl _ (Nat.lt_succ_self _)).trans (ZwL c none)
  · intro i b v k' hv hlt hb
    have hi : IntKind.i64.wrap ((i : Int) + 1) = ((i + 1 : Nat) : Int) := Za6 (by omega)
    simp only [Zef, ZaS hv, Option.bind_some, dlt hlt, cond_true, hi]
    cases i with
    | zero =>
      have hb' : b = none := hb
      subst hb'
      have e2 : decide (((0 : Nat) : Int) > 0) = false := rfl
      have key : Zxk none v = Za1 v.name := by unfold Zxk; simp
      rw [key]
      cases Za1 v.name
      · rfl
      · simp only [e2, Bool.not_true, Bool.not_false, cond_true, cond_false, Bool.true_and, Bool.and_false, Option.bind_some]
        rfl
    | succ j =>
      have hj : j < c.length := by omega
      have hw : c[j]? = some c[j] := List.getElem?_eq_getElem hj
      have hb' : b = some c[j].name := by rw [hb]; simp [hw]
      subst hb'
      have e2 : decide (((j + 1 : Nat) : Int) > 0) = true := by simp
      have e3 : IntKind.i64.wrap (((j + 1 : Nat) : Int) - 1) = (j : Int) := by rw [Zbx (by omega) (by omega)]; omega
      have key : Zxk (some c[j].name) v = (Za1 v.name && Op.bytesLess c[j].name v.name) := rfl
      rw [key]
      cases Za1 v.name
      · rfl
      · simp only [Bool.not_true, Bool.not_false, cond_true, cond_false, Bool.true_and, e2, e3, ZaS hw, ZaS hv, Option.bind_some]
        cases Op.bytesLess c[j].name v.name <;> rfl
  · intro i b v b' hv hb hs
    split at hs
    · cases hs
      simp [hv]
    · cases hs
  · intro b k' hb
    simp only [Zef, ZnJ, cond_false]
theorem ZvS {K : Zaa} (hK : Zcp K) : Zag U (Zab C K) 29 ⟨true, [.ty 23], [4], Zmy⟩ :=
  Zj3 (kf hK 29 (by decide)) _ (Ztk hK) _ fun a r h => by
    unfold Zmy at h
    split at h
    · rename_i h3; cases h; exact ⟨_, ZoZ a h3⟩
    · cases h
def YdX (c : List Cus) : Option Mp := if c.length ≤ B then some (YbB c) else none
theorem YbI {c : List Cus} (h : c.length ≤ B) : YdX c = some (YbB c) := if_pos h
theorem ZvT (c : List Cus) (h : c.length ≤ B) : Zhy (c.length + 1) c = some (YbB c) := by
  have hB : B = 2 ^ 36 := rfl
  unfold Zhy
  refine (Zf1 c (fun (b : Mp) => b) (fun b v => .inl (ZgB BEq.beq v.name v.val b)) (fun b => some b) (fun i b => True) ?_ ?_ ?_ [] trivial _ (Nat.lt_succ_self _)).trans ?_
  · intro i b v k' hv hlt hb
    have hi : IntKind.i64.wrap ((i : Int) + 1) = ((i + 1 : Nat) : Int) := Za6 (by omega)
    simp only [ZeD, ZaS hv, Option.bind_some, dlt hlt, cond_true, hi]
  · intro i b v b' hv hb hs; trivial
  · intro b k' hb
    simp only [ZeD, ZnJ, cond_false]
  · rw [Zck (fun (b : Mp) (v : Cus) => ZgB BEq.beq v.name v.val b)]; rfl
theorem YbG {K : Zaa} (hK : Zcp K) : Zag U (Zab C K) 35 ⟨false, [.ty 23], [60], YdX⟩ :=
  Zk3 (kf hK 35 (by decide)) _ fun a r h => by
    unfold YdX at h
    split at h
    · rename_i h3; cases h; exact ⟨_, ZvT a h3⟩
    · cases h
def ZkG (v : Cus) : Bool := (Zbk v.val != 0) || ZaW v.val || decide (Zah v.val > 2000)
def Yc0 : List Cus → Int
  | [] => 0
  | v :: r => if ZkG v then 8 else Yc0 r
def Zsg (c : List Cus) : Int := if c.length > 64 ∨ namL none c = false then 8 else Yc0 c
def ZkO (c : List Cus) : Prop := c.length ≤ B ∧ ∀ v ∈ c, Zah v.val ≤ V
instance (a) : Decidable (ZkO a) := inferInstanceAs (Decidable (_ ∧ _))
def Ybe (c : List Cus) : Option Int := if ZkO c then some (Zsg c) else none
theorem Zsu {c : List Cus} (h : ZkO c) : Ybe c = some (Zsg c) := if_pos h
theorem Zx5 (l : List Cus) : Zm2 (fun (_ : Unit) v => if ZkG v = true then .inr (some (8 : Int)) else .inl ()) (fun _ => some (0 : Int)) l () = some (Yc0 l) := by
  induction l with
  | nil => rfl
  | cons v l ih =>
    simp only [Zm2, Yc0]
    by_cases h : ZkG v = true
    · rw [if_pos h, if_pos h]
    · rw [if_neg h, if_neg h]; exact ih
theorem YaI (c : List Cus) (h : ZkO c) : Zg3 Zmy Ziy ZsX Zh4 (c.length + 1) c = some (Zsg c) := by
  have hB : B = 2 ^ 36 := rfl
  have hV : V = 2 ^ 24 := rfl
  obtain ⟨hl, hm⟩ := h
  unfold Zg3 Zsg
  by_cases h1 : c.length > 64
  · have : decide ((c.length : Int) > 64) = true := by simp; omega
    rw [this, if_pos (.inl h1)]; rfl
  · have e : decide ((c.length : Int) > 64) = false := by simp; omega
    simp only [e, Bool.not_false, cond_true, cond_false, ZqN hl, Option.bind_some]
    cases h2 : namL none c
    · rw [if_pos (.inr rfl)]; rfl
    · rw [if_neg (by simp; omega)]
      simp only [Bool.not_true, cond_false]
      refine (ZbO c (fun (_ : Unit) => (0 : Int)) (fun _ v => if ZkG v = true then .inr (some (8 : Int)) else .inl ()) (fun _ => some (0 : Int)) (fun i b => True) ?_ ?_ ?_ () trivial _ (Nat.lt_succ_self _)).trans (Zx5 c)
      · intro i b v k' hv hlt hb
        have hvm := hm v (List.mem_of_getElem? hv)
        have hi : IntKind.i64.wrap ((i : Int) + 1) = ((i + 1 : Nat) : Int) := Za6 (by omega)
        have hd : decide ((Zah v.val : Int) > 2000) = decide (Zah v.val > 2000) := by simp; omega
        simp only [ZeH, ZaS hv, Option.bind_some, dlt hlt, cond_true, hi, ZfG (show Zah v.val ≤ B by omega), ZjG (show Zah v.val ≤ B by omega), Zhs (show Zah v.val ≤ B by omega)]
        unfold ZkG
        cases e1 : (Zbk v.val != 0) <;> cases e2 : ZaW v.val <;> cases e3 : decide (Zah v.val > 2000) <;> rw [e3] at hd <;> first | rfl | simp [hd]
      · intro i b v b' hv hb hs; trivial
      · intro b k' hb
        simp only [ZeH, ZnJ, cond_false]
theorem YbZ {K : Zaa} (hK : Zcp K) : Zag U (Zab C K) 22 ⟨true, [.ty 23], [28], Ybe⟩ :=
  Zk2 (kf hK 22 (by decide)) _ _ _ _ (Ycz hK) (ZfR (kf hK 33 (by decide)) (kf hK 52 (by decide)) (kf hK 66 (by decide))) (Ybu hK) (ZwK hK) _ fun a r h => by
    unfold Ybe at h
    split at h
    · rename_i h3; cases h; exact ⟨_, YaI a h3⟩
    · cases h
theorem ZsL (c : List Cus) (h : ZkO c) : Zf2 Zmy Ziy ZsX Zh4 (c.length + 1) c = some (Zsg c) := by
  have hB : B = 2 ^ 36 := rfl
  have hV : V = 2 ^ 24 := rfl
  obtain ⟨hl, hm⟩ := h
  unfold Zf2 Zsg
  by_cases h1 : c.length > 64
  · have : decide ((c.length : Int) > 64) = true := by simp; omega
    rw [this, if_pos (.inl h1)]; rfl
  · have e : decide ((c.length : Int) > 64) = false := by simp; omega
    simp only [e, Bool.not_false, cond_true, cond_false, ZqN hl, Option.bind_some]
    cases h2 : namL none c
    · rw [if_pos (.inr rfl)]; rfl
    · rw [if_neg (by simp; omega)]
      simp only [Bool.not_true, cond_false]
      refine (ZbO c (fun (_ : Unit) => (0 : Int)) (fun _ v => if ZkG v = true then .inr (some (8 : Int)) else .inl ()) (fun _ => some (0 : Int)) (fun i b => True) ?_ ?_ ?_ () trivial _ (Nat.lt_succ_self _)).trans (Zx5 c)
      · intro i b v k' hv hlt hb
        have hvm := hm v (List.mem_of_getElem? hv)
        have hi : IntKind.i64.wrap ((i : Int) + 1) = ((i + 1 : Nat) : Int) := Za6 (by omega)
        have hd : decide ((Zah v.val : Int) > 2000) = decide (Zah v.val > 2000) := by simp; omega
        simp only [Zee, ZaS hv, Option.bind_some, dlt hlt, cond_true, hi, ZfG (show Zah v.val ≤ B by omega)]
        unfold ZkG
        cases e1 : (Zbk v.val != 0)
        · simp only [Bool.not_false, cond_true, cond_false, Option.bind_some, ZjG (show Zah v.val ≤ B by omega)]
          cases e2 : ZaW v.val
          · simp only [Bool.not_false, cond_true, cond_false, Option.bind_some, Zhs (show Zah v.val ≤ B by omega), hd]
            cases decide (Zah v.val > 2000) <;> rfl
          · rfl
        · rfl
      · intro i b v b' hv hb hs; trivial
      · intro b k' hb
        simp only [Zee, ZnJ, cond_false]
theorem ZzM {K : Zaa} (hK : Zcp K) : Zag U (Zab C K) 11 ⟨true, [.ty 23], [3], Ybe⟩ :=
  Zjx (kf hK 11 (by decide)) _ _ _ _ (ZvS hK) (Zvq (kf hK 30 (by decide)) (kf hK 28 (by decide)) (kf hK 49 (by decide)) (kf hK 50 (by decide)) (kf hK 47 (by decide))) (Zz6 hK) (YdO (kf hK 32 (by decide))) _ fun a r h => by
    unfold Ybe at h
    split at h
    · rename_i h3; cases h; exact ⟨_, ZsL a h3⟩
    · cases h
end Go.Tev.S1
namespace Go.Tev.S1
open Go.Abs Go.Proofs
def ZgA (lk : Lk) (l : List Val) : List Val × Int := match ZeP lk l with
  | none => ([], 6)
  | some n => if 2000 < n ∧ ZaW l = true then ([], 28) else if Zbk (ZdW lk l) = 0 then (ZdW lk l, 0) else ([], Zbk (ZdW lk l))
def okR (lk : Lk) (l : List Val) : Prop := Zah l ≤ B ∧ YdK lk
open Classical in
noncomputable def Zlg (a : List Val × Mp) : Option (List Val × Int) := if okR (lkM a.2) a.1 ∧ ∀ p ∈ a.2, Zah p.2 ≤ V then some (ZgA (lkM a.2) a.1) else none
theorem ZlB {l : List Val} {m : Mp} (h : okR (lkM m) l) (h2 : ∀ p ∈ m, Zah p.2 ≤ V) : Zlg (l, m) = some (ZgA (lkM m) l) := if_pos ⟨h, h2⟩
theorem ZwO {lk : Lk} {l : List Val} (h : okR lk l) {n : Nat} (hn : ZeP lk l = some n) (h2 : ¬ (2000 < n ∧ ZaW l = true)) : okP lk l ∧ Zah (ZdW lk l) ≤ B := by
  have hB : B = 2 ^ 36 := rfl
  have : n ≤ B := by
    by_cases h3 : 2000 < n
    · cases e : ZaW l with
      | true => exact absurd ⟨h3, e⟩ h2
      | false =>
        rw [Zpu lk l e] at hn
        cases hn
        exact h.1
    · omega
  exact ⟨⟨h.1, h.2, n, hn, this⟩, by rw [Zym lk l n hn]; exact this⟩
theorem Zq7 (m : Mp) (l : List Val) (h : okR (lkM m) l) (hm : ∀ p ∈ m, Zah p.2 ≤ V) : Zfk YaX ZsX Ycw Ziy 0 l m = some (ZgA (lkM m) l) := by
  unfold Zfk ZgA
  rw [Zte h.1 hm]
  cases e : ZeP (lkM m) l with
  | none =>
    rw [Ziv e]; rfl
  | some n =>
    rw [Zih e]
    have e1 : decide ((n : Int) < 0) = false := by simp
    simp only [Option.bind_some, e1, cond_false, ZjG h.1]
    by_cases h2 : 2000 < n ∧ ZaW l = true
    · have e2 : decide ((n : Int) > 2000) = true := by simp; omega
      rw [if_pos h2]
      simp only [e2, h2.2, cond_true, Option.bind_some]
    · obtain ⟨g1, g2⟩ := ZwO h e h2
      have e2 : (bif decide ((n : Int) > 2000) then ZaW l else false) = false := by
        by_cases h3 : 2000 < n
        · have : ZaW l = false := by
            cases e : ZaW l with
            | true => exact absurd ⟨h3, e⟩ h2
            | false => rfl
          rw [this]; simp
        · have : decide ((n : Int) > 2000) = false := by simp; omega
          rw [this]; rfl
      rw [if_neg h2]
      have e3 : ∀ (X : Option Bool), (Option.bind (bif decide ((n : Int) > 2000) then some (ZaW l) else some false) fun r2 => (some (bif decide ((n : Int) > 2000) then r2 else false))) = some false := by
        intro X
        rw [← e2]
        cases decide ((n : Int) > 2000) <;> rfl
      cases e4 : decide ((n : Int) > 2000)
      · simp only [cond_false, Option.bind_some, Zs3 g1, ZfG g2]
        by_cases h5 : Zbk (ZdW (lkM m) l) = 0
        · have : (Zbk (ZdW (lkM m) l) != 0) = false := by simpa using h5
          rw [this, if_pos h5]; rfl
        · have : (Zbk (ZdW (lkM m) l) != 0) = true := by simpa using h5
          rw [this, if_neg h5]; rfl
      · have e5 : ZaW l = false := by rw [e4] at e2; exact e2
        simp only [cond_true, e5, cond_false, Option.bind_some, Zs3 g1, ZfG g2]
        by_cases h5 : Zbk (ZdW (lkM m) l) = 0
        · have : (Zbk (ZdW (lkM m) l) != 0) = false := by simpa using h5
          rw [this, if_pos h5]; rfl
        · have : (Zbk (ZdW (lkM m) l) != 0) = true := by simpa using h5
          rw [this, if_neg h5]; rfl
theorem ZqD {K : Zaa} (hK : Zcp K) : Zag U (Zab C K) 34 ⟨true, [.ty 22, .ty 60], [22, 28], Zlg⟩ :=
  ZiW (kf hK 34 (by decide)) _ _ _ _ (ZwS hK) (Ybu hK) (Yd8 hK) (ZfR (kf hK 33 (by decide)) (kf hK 52 (by decide)) (kf hK 66 (by decide))) _ fun a r h => by
    unfold Zlg at h
    split at h
    · rename_i h3; cases h; exact ⟨0, Zq7 a.2 a.1 h3.1 h3.2⟩
    · cases h
def Zp9 (l : List Val) (c : List Cus) : List Val × Int := if Zbk l ≠ 0 then ([], Zbk l) else if Zsg c ≠ 0 then ([], Zsg c) else ZgA (lkC c) l
def ZiI (a : List Val × List Cus) : Option (List Val × Int) := if Zah a.1 ≤ B ∧ ZkO a.2 then some (Zp9 a.1 a.2) else none
theorem Zky {l : List Val} {c : List Cus} (h : Zah l ≤ B) (h2 : ZkO c) : ZiI (l, c) = some (Zp9 l c) := if_pos ⟨h, h2⟩
theorem Ybs {c : List Cus} (h : Yc0 c = 0) : ∀ v ∈ c, ZaW v.val = false := by
  induction c with
  | nil => intro v hv; cases hv
  | cons y c ih =>
    simp only [Yc0] at h
    split at h
    · cases h
    · rename_i h2
      intro v hv
      rcases List.mem_cons.1 hv with rfl | hv
      · rw [Bool.not_eq_true, ZkG, Bool.or_eq_false_iff, Bool.or_eq_false_iff] at h2
        exact h2.1.2
      · exact ih h v hv
theorem Zxj {c : List Cus} (h : Zsg c = 0) (h2 : ZkO c) : YdK (lkC c) ∧ namL none c = true := by
  unfold Zsg at h
  split at h
  · cases h
  · rename_i h3
    have h4 : namL none c = true := by
      cases e : namL none c with
      | true => rfl
      | false => exact absurd (.inr e) h3
    refine ⟨fun n x hx => ?_, h4⟩
    obtain ⟨p, hp, rfl⟩ := YcG hx
    exact ⟨h2.2 p hp, Ybs h p hp⟩
theorem ZrC (l : List Val) (c : List Cus) (h : Zah l ≤ B) (h2 : ZkO c) : Zfe Ziy Ybe YdX Zlg 0 l c = some (Zp9 l c) := by
  unfold Zfe Zp9
  simp only [ZfG h, Zsu h2, YbI h2.1, Option.bind_some]
  by_cases h3 : Zbk l = 0
  · have e3 : (Zbk l != 0) = false := by simpa using h3
    rw [if_neg (by simp [h3]), e3]
    simp only [cond_false]
    by_cases h4 : Zsg c = 0
    · have e4 : (Zsg c != 0) = false := by simpa using h4
      obtain ⟨g1, g2⟩ := Zxj h4 h2
      have g3 := Ycd g2
      have g4 : ∀ p ∈ YbB c, Zah p.2 ≤ V := by
        intro p hp
        obtain ⟨x, hx, e⟩ := Yb2 hp
        rw [e]; exact h2.2 x hx
      rw [if_neg (by simp [h4]), e4, ZlB (by rw [g3]; exact ⟨h, g1⟩) g4, g3]
      rfl
    · have e4 : (Zsg c != 0) = true := by simpa using h4
      rw [if_pos h4, e4]; rfl
  · have e3 : (Zbk l != 0) = true := by simpa using h3
    rw [if_pos h3, e3]; rfl
theorem Zx7 {K : Zaa} (hK : Zcp K) : Zag U (Zab C K) 12 ⟨true, [.ty 22, .ty 23], [22, 28], ZiI⟩ :=
  Zjl (kf hK 12 (by decide)) _ _ _ _ (ZfR (kf hK 33 (by decide)) (kf hK 52 (by decide)) (kf hK 66 (by decide))) (YbZ hK) (YbG hK) (ZqD hK) _ fun a r h => by
    unfold ZiI at h
    split at h
    · rename_i h3; cases h; exact ⟨0, ZrC a.1 a.2 h3.1 h3.2⟩
    · cases h
end Go.Tev.S1
