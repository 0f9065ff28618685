/- A certified evaluator for the walked functions, and their contracts, for the laws of the variables. -/
import Derived.Test.YtnmlodkomklpfaaGreatLE
import Derived.Test.YtnmlodkomklpfaaGreatChecked
import Derived.KernelRfl
import Derived.Test.YtnmlodkomklpfaaGreatLG
set_option linter.unusedVariables false
set_option linter.unusedSimpArgs false
namespace Go.Abs
open Go.Proofs
def ann : FuncId → FA
  | 2 => ⟨1, [], [], [], [0], []⟩
  | 3 => ⟨84, [0, 1, 2, 6, 7, 8, 9, 10, 11, 12, 13, 33, 42], [], [], [14, 16, 19, 23, 27, 38, 52, 57, 63, 73], []⟩
  | 4 => ⟨118, [0, 1, 4, 5, 6, 7, 8, 9, 10, 11, 12, 13, 14, 15, 32, 40, 58, 62, 77, 89, 92, 101], [], [], [16, 18, 36, 54, 71, 99, 116], []⟩
  | 5 => ⟨342, [0, 1, 2, 3, 4, 5, 6, 7, 8, 9, 11, 13, 14, 15, 17, 19, 20, 21, 22, 23, 24, 26, 28, 30, 31, 32, 33, 34, 35, 36, 121, 137, 140], [], [], [37, 38, 39, 42, 44, 47, 51, 55, 59, 63, 67, 70, 74, 77, 80, 84, 88, 92, 96, 100, 104, 106, 108, 109, 111, 112, 114, 128, 135, 159, 165, 169, 173, 177, 180, 184, 187, 193, 197, 200, 204, 206, 208, 214, 221, 231, 235, 236, 240, 241, 272, 278, 285, 287, 296, 298, 312, 332], []⟩
  | 6 => ⟨100, [0, 2, 3, 4, 5, 6, 7, 8, 9, 16, 24, 34, 50, 61, 93], [], [], [10, 12, 20, 43, 46, 57, 67, 89, 97], []⟩
  | 7 => ⟨87, [0, 2, 3, 4, 5, 6, 7, 8, 9, 10, 11, 18, 26, 31, 36, 85], [], [], [12, 14, 22, 36, 43, 51, 56, 82], []⟩
  | 8 => ⟨39, [0, 1, 2, 3], [], [], [4, 7, 8, 9, 11, 15, 18, 22, 26, 34, 35, 37], []⟩
  | 9 => ⟨11, [0, 2], [], [], [4, 8], []⟩
  | 10 => ⟨45, [0, 2, 3, 4, 12, 29], [], [], [20, 36], []⟩
  | 11 => ⟨42, [0, 2, 3, 11, 15, 41], [], [], [9, 23, 31, 39], []⟩
  | 12 => ⟨24, [0, 1, 4, 5, 6, 7, 11, 16], [], [], [9, 14, 20, 21], [21]⟩
  | 13 => ⟨18, [0, 2, 3, 4, 5, 9], [], [], [7, 14, 16, 17], []⟩
  | 14 => ⟨5, [0, 2], [], [], [4], []⟩
  | 15 => ⟨42, [0, 1, 4, 5, 10, 14, 41], [], [], [39], []⟩
  | 16 => ⟨28, [0, 2, 3, 5, 6, 9, 12, 13, 14, 15, 16, 23], [], [], [11, 21, 27], []⟩
  | 17 => ⟨20, [0, 1, 4, 5, 9, 18], [], [], [], []⟩
  | 18 => ⟨42, [0, 1, 4, 5, 10, 14, 41], [], [], [39], []⟩
  | 19 => ⟨9, [0, 1, 4], [], [], [7], []⟩
  | 20 => ⟨24, [0, 1, 2, 6, 7, 8], [], [], [11, 13, 21, 22], []⟩
  | 21 => ⟨24, [0, 1, 2, 6, 7, 8], [], [], [11, 13], []⟩
  | 22 => ⟨35, [0, 2, 4, 12, 13, 14, 15, 16, 33], [], [], [10, 21, 26, 31], []⟩
  | 23 => ⟨18, [0, 2, 3, 5], [], [], [9, 14], []⟩
  | 24 => ⟨12, [0, 2, 3, 4, 8], [], [], [6, 11], []⟩
  | 25 => ⟨26, [0, 1, 4, 5, 10, 14, 25], [], [], [], []⟩
  | 26 => ⟨65, [0, 1, 4, 5, 6, 7, 8, 10, 11, 19, 37, 48, 57], [6], [], [31, 45], []⟩
  | 27 => ⟨47, [0, 1, 4, 5, 6, 15], [], [], [43], []⟩
  | 28 => ⟨29, [0, 2, 3, 4, 8, 18], [], [], [17, 25], []⟩
  | 29 => ⟨35, [0, 2, 3, 7, 34], [], [], [15], []⟩
  | 30 => ⟨13, [0, 2, 5, 9, 12], [], [], [4, 7, 11], []⟩
  | 31 => ⟨33, [0, 2, 3, 4, 8, 32], [], [], [22, 31], []⟩
  | 32 => ⟨37, [0, 2, 3, 4, 8], [], [], [33], []⟩
  | 33 => ⟨17, [0, 2, 3, 6, 10, 14], [], [], [5], []⟩
  | 34 => ⟨31, [0, 1, 4, 5, 6, 7, 8, 12, 15, 28], [], [], [11, 20, 24, 26], [11, 24]⟩
  | 35 => ⟨20, [0, 2, 3, 5, 7, 8, 9, 10], [], [], [], []⟩
  | 36 => ⟨32, [0, 1, 5, 6, 9, 10, 11, 12, 16, 24], [], [], [16, 19, 30], []⟩
  | 37 => ⟨9, [0, 2, 3], [], [], [5, 7], []⟩
  | 38 => ⟨4, [0, 1, 2], [], [1], [], []⟩
  | 39 => ⟨9, [0, 1, 4], [], [], [7], []⟩
  | 40 => ⟨19, [0, 1, 2], [], [], [11, 17], []⟩
  | 41 => ⟨30, [0, 2, 3, 4, 5, 8, 9, 10, 11, 20], [], [], [], []⟩
  | 42 => ⟨25, [0, 2, 3, 5, 6, 7, 8, 9, 21], [], [], [14], []⟩
  | 43 => ⟨118, [0, 2, 3, 4, 5, 6, 7, 9, 11, 12, 13, 14, 16, 17, 18, 19, 21, 22, 23, 30, 32, 36, 39, 40, 41, 42, 53, 60, 62, 71, 72, 89, 95, 96, 97, 98, 108], [19], [], [25, 28, 58, 80, 87], [80]⟩
  | 44 => ⟨30, [0, 2, 3, 5, 6, 7, 8, 9], [], [], [25], []⟩
  | 45 => ⟨25, [0, 2, 3, 4, 5, 6, 14, 23], [], [], [10, 18], []⟩
  | 46 => ⟨21, [0, 2, 3, 4, 5, 8, 15, 19], [], [], [11, 17], []⟩
  | 47 => ⟨11, [0, 2, 3, 4, 6, 9], [], [], [], []⟩
  | 48 => ⟨16, [0, 2], [], [], [], []⟩
  | 49 => ⟨43, [0, 2, 3, 4, 5, 9, 28], [3], [], [26, 35], []⟩
  | 50 => ⟨59, [0, 1, 4, 5, 6, 10, 58], [], [], [19, 55], []⟩
  | 51 => ⟨33, [0, 2, 3, 4, 10, 24], [], [], [], []⟩
  | 52 => ⟨71, [0, 1, 4, 5, 7, 8, 9, 10, 11, 12, 13, 42, 45], [], [], [23, 49], []⟩
  | 53 => ⟨67, [0, 1, 4, 5, 7, 8, 9, 10, 11, 12, 13, 14, 15, 16, 17, 22, 51, 55, 61], [], [], [21, 38, 41, 54, 59], [38, 59]⟩
  | 54 => ⟨53, [0, 1, 4, 5, 7, 8, 9, 11, 12, 13, 14, 15, 16, 21, 44], [5], [], [20, 28, 34, 49], [28, 49]⟩
  | 55 => ⟨34, [0, 1, 2, 3], [], [], [], []⟩
  | 56 => ⟨54, [0, 1, 2, 3, 4, 5, 6, 29, 38, 43], [], [], [9, 27, 37, 53], []⟩
  | 57 => ⟨5, [0, 2], [], [], [4], []⟩
  | 58 => ⟨11, [0, 2], [], [], [9, 10], []⟩
  | 59 => ⟨14, [0, 1, 3, 5, 7, 13], [], [], [12], []⟩
  | 60 => ⟨19, [0, 1, 4, 5, 7, 8, 9, 16], [], [], [16], []⟩
  | 61 => ⟨15, [0, 2], [], [], [4], []⟩
  | 62 => ⟨52, [0, 2, 3, 5, 6, 8, 9, 10, 12, 13, 14, 15, 31, 32, 33, 34], [], [3, 9, 10], [28, 42], []⟩
  | 63 => ⟨9, [0, 2, 3, 6], [], [], [8], []⟩
  | 64 => ⟨36, [0, 2, 3, 4, 5, 6, 7, 8, 14], [4, 5], [], [10, 18, 33], []⟩
  | 65 => ⟨14, [0, 2, 3, 4, 5], [], [], [8], []⟩
  | 66 => ⟨12, [0, 2, 3, 4, 6], [], [], [], []⟩
  | 67 => ⟨17, [0, 2, 13], [], [], [], []⟩
  | 68 => ⟨25, [0, 2, 18], [], [], [4], []⟩
  | 69 => ⟨13, [0, 1, 2, 4, 5, 6, 7], [], [], [], []⟩
  | 70 => ⟨134, [0, 1, 2, 3, 8, 9, 10, 11, 12, 13, 14, 15, 16, 17, 18, 23, 29, 35, 50, 68, 72, 87, 113], [], [], [27, 33, 39, 46, 54, 72, 85, 92, 99, 121, 132], []⟩
  | 71 => ⟨8, [0, 2], [], [], [5, 7], []⟩
  | 72 => ⟨8, [0, 1, 4], [], [], [7], []⟩
  | 73 => ⟨29, [0, 1, 2, 3, 5, 9, 11, 23], [], [], [28], []⟩
  | 74 => ⟨46, [0, 2, 3, 4, 5, 9, 27, 33, 35], [], [], [], []⟩
  | 75 => ⟨28, [0, 1, 4, 7, 19], [], [], [7, 17], []⟩
  | 76 => ⟨138, [0, 1, 4, 5, 6, 7, 8, 9, 10, 14, 21, 33, 70, 79, 86, 93, 112, 121], [], [], [16, 20, 30, 47, 53, 60, 67, 73, 76, 82, 89, 100, 106, 115, 118, 123, 126], []⟩
  | 77 => ⟨67, [0, 1, 2, 3, 8, 9, 10, 11, 12, 29, 42, 44, 56], [10], [], [40, 51], []⟩
  | 78 => ⟨49, [0, 1, 2, 6, 7, 12, 30], [], [], [29], []⟩
  | 79 => ⟨56, [0, 1, 2, 6, 7, 8, 9, 10, 19, 30], [], [], [26, 55], []⟩
  | 80 => ⟨65, [0, 1, 2, 6, 7, 8, 9, 10, 15, 33, 43], [], [7], [19, 36], []⟩
  | 81 => ⟨57, [0, 1, 2, 6, 7, 8, 9, 10, 11, 12, 32, 34, 49, 51, 54], [], [9], [37, 40, 43, 48], []⟩
  | 82 => ⟨32, [0, 1, 2, 6, 7, 13], [], [], [], []⟩
  | 83 => ⟨133, [0, 1, 2, 6, 7, 8, 9, 10, 14, 32, 37, 41, 61, 65, 78, 98, 103, 116], [], [], [30, 77, 115], []⟩
  | 84 => ⟨17, [0, 1, 4], [], [], [6, 9], []⟩
  | 85 => ⟨84, [0, 1, 2, 3, 8, 9, 10, 43, 59, 64], [], [], [41, 58], []⟩
  | 86 => ⟨168, [0, 1, 2, 3, 8, 9, 10, 11, 43, 60, 65, 112, 129, 134], [], [], [42, 58, 111, 127], []⟩
  | 87 => ⟨19, [0, 2, 4, 8], [], [], [], []⟩
  | 88 => ⟨25, [0, 2, 4, 8, 14], [], [], [], []⟩
  | 89 => ⟨18, [0, 1, 4], [], [], [], []⟩
  | 90 => ⟨25, [0, 1, 2, 6], [], [], [], []⟩
  | 91 => ⟨13, [0, 2], [], [], [], []⟩
  | 92 => ⟨12, [0, 1, 4, 8], [], [], [7, 8], []⟩
  | 93 => ⟨94, [0, 1, 4, 5, 6, 7, 8, 9, 19, 31, 40, 47, 61, 75], [], [], [83], []⟩
  | 94 => ⟨13, [0, 2], [], [], [4, 7], []⟩
  | 95 => ⟨16, [0, 1, 4], [], [], [7, 13], []⟩
  | 96 => ⟨49, [0, 1, 4, 5, 6, 7, 8, 18, 36], [], [], [17, 35, 40], []⟩
  | 97 => ⟨36, [0, 1, 4, 8], [], [], [7, 12, 13, 18, 25, 29, 30, 34], []⟩
  | 98 => ⟨27, [0, 1, 4, 5, 14, 20], [], [], [8, 19, 25, 26], []⟩
  | 99 => ⟨43, [0, 1, 4, 5, 6, 7, 8, 24, 36], [], [], [12, 19, 24, 29, 35], []⟩
  | 100 => ⟨46, [0, 1, 4, 5, 6, 7, 8, 18, 23, 35], [], [], [12, 17, 23, 28, 29, 39], []⟩
  | 101 => ⟨22, [0, 2, 3, 4, 6, 8, 10, 12, 14, 16, 18, 20], [], [], [], []⟩
  | 102 => ⟨76, [0, 1, 2, 3, 8, 9, 16, 36, 52], [], [], [35, 51], []⟩
  | 103 => ⟨7, [0, 2], [], [], [5], []⟩
  | 104 => ⟨33, [0, 2], [], [], [], []⟩
  | 105 => ⟨15, [0, 1, 2, 6], [], [], [14], []⟩
  | 106 => ⟨36, [0, 1, 2, 3, 4, 10], [], [], [16, 24, 32], []⟩
  | 107 => ⟨6, [0, 2], [], [], [], []⟩
  | 108 => ⟨12, [0, 1, 4, 8], [], [], [], []⟩
  | 109 => ⟨64, [0, 1, 4, 5, 6, 7, 13, 20, 45, 58], [], [], [14, 19, 43, 51, 57, 58, 62], []⟩
  | 110 => ⟨20, [0, 2, 3], [], [], [5], []⟩
  | 111 => ⟨9, [0, 2], [], [], [], []⟩
  | 112 => ⟨71, [0, 1, 4, 5, 6, 7, 8, 9, 10, 19, 35, 48, 59, 65], [], [], [13, 24, 27, 33, 34, 39, 42, 53, 64, 65, 68], []⟩
  | 113 => ⟨138, [0, 2, 3, 4, 5, 6, 7, 8, 9, 10, 19, 25, 38, 44, 59, 72, 78, 90, 107, 128, 134], [], [], [24, 25, 37, 43, 44], []⟩
  | 114 => ⟨10, [0, 1, 4], [], [], [6, 8], []⟩
  | 115 => ⟨110, [0, 1, 4, 5, 6, 7, 8, 9, 23, 38, 53, 59, 89], [], [], [13, 40, 43, 56, 72, 80, 86, 95], []⟩
  | 116 => ⟨28, [0, 1, 2, 3, 8, 9, 18], [], [], [18], []⟩
  | 117 => ⟨3, [0], [], [], [], []⟩
  | 118 => ⟨20, [0, 2, 4, 15], [], [], [4, 9], []⟩
  | 119 => ⟨73, [0, 2, 16, 19, 25, 37], [], [], [17], []⟩
  | 120 => ⟨13, [0, 2, 8], [], [], [], []⟩
  | 121 => ⟨12, [0, 1, 4, 8], [], [], [7, 8], []⟩
  | 122 => ⟨23, [0, 2, 3, 4, 10], [], [], [19], []⟩
  | 123 => ⟨33, [0, 1, 4, 5, 15, 18], [], [], [18, 22], []⟩
  | 124 => ⟨21, [0, 2], [], [], [], []⟩
  | _ => ⟨0, [], [], [], [], []⟩
theorem A13 : (ann 13).nt = 18 ∧ (ann 13).keep = [0, 2, 3, 4, 5, 9] ∧ (ann 13).take = [] ∧ (ann 13).heapy = [] ∧ (ann 13).frz = [7, 14, 16, 17] ∧ (ann 13).lend = [] := ⟨rfl, rfl, rfl, rfl, rfl, rfl⟩
theorem A38 : (ann 38).nt = 4 ∧ (ann 38).keep = [0, 1, 2] ∧ (ann 38).take = [] ∧ (ann 38).heapy = [1] ∧ (ann 38).frz = [] ∧ (ann 38).lend = [] := ⟨rfl, rfl, rfl, rfl, rfl, rfl⟩
noncomputable def C : Ctx := ⟨Tryz.prog, ann⟩
def ZcF (K : Zaa) : Prop := ∀ (f : Nat) a h, f ∉ [8, 26, 37, 43, 62, 73] → K f a h = none
theorem Zt2 : C.ann = ann := rfl
theorem Zu4 (a b : Nat) : Nat.beq a b = (a == b) := by rw [Bool.eq_iff_iff]; simp [Nat.beq_eq]
theorem ZuC (a b : Nat) : Nat.ble a b = decide (a ≤ b) := by rw [Bool.eq_iff_iff]; simp [Nat.ble_eq]
theorem Zuk (a b : Nat) : Nat.blt a b = decide (a < b) := by rw [Bool.eq_iff_iff]; simp [Nat.blt_eq]
theorem Zsu {i n : Nat} (h : i < n) : idx (i : Int) n = some i := by unfold idx; rw [if_pos ⟨by omega, by omega⟩]; simp
end Go.Abs
namespace Go.Tev.S1
open Go.Abs Go.Proofs
theorem hC (t : Nat) (h : (U.cells t).isSome = true) : C.isAgg t = some (isT t) := by
  by_cases h2 : t = 2
  · subst h2; kernel_rfl
  by_cases h3 : t = 3
  · subst h3; kernel_rfl
  by_cases h4 : t = 4
  · subst h4; kernel_rfl
  by_cases h5 : t = 5
  · subst h5; kernel_rfl
  by_cases h9 : t = 9
  · subst h9; kernel_rfl
  by_cases h22 : t = 22
  · subst h22; kernel_rfl
  by_cases h23 : t = 23
  · subst h23; kernel_rfl
  by_cases h28 : t = 28
  · subst h28; kernel_rfl
  by_cases h31 : t = 31
  · subst h31; kernel_rfl
  by_cases h39 : t = 39
  · subst h39; kernel_rfl
  by_cases h46 : t = 46
  · subst h46; kernel_rfl
  by_cases h49 : t = 49
  · subst h49; kernel_rfl
  by_cases h51 : t = 51
  · subst h51; kernel_rfl
  by_cases h60 : t = 60
  · subst h60; kernel_rfl
  by_cases h62 : t = 62
  · subst h62; kernel_rfl
  by_cases h72 : t = 72
  · subst h72; kernel_rfl
  by_cases h77 : t = 77
  · subst h77; kernel_rfl
  by_cases h78 : t = 78
  · subst h78; kernel_rfl
  by_cases h84 : t = 84
  · subst h84; kernel_rfl
  by_cases h92 : t = 92
  · subst h92; kernel_rfl
  by_cases h107 : t = 107
  · subst h107; kernel_rfl
  change (cells t).isSome = true at h
  unfold cells at h
  split at h <;> first | (exfalso; contradiction) | (cases h; done)
theorem hZ (t : Nat) (cs : List (TV U.X)) (h : U.zcells t = some cs) : ∃ z, C.zero t = some z ∧ dvL U cs = some z.cells ∧ z.cellOk = true ∧ (C.isAgg t = some true → z = .agg z.cells) := by
  by_cases h2 : t = 2
  · subst h2; cases h; exact ⟨.int .i64 0, by kernel_rfl, rfl, rfl, fun h => by rw [hC 2 rfl] at h; cases h⟩
  by_cases h3 : t = 3
  · subst h3; cases h; exact ⟨.int .i64 0, by kernel_rfl, rfl, rfl, fun h => by rw [hC 3 rfl] at h; cases h⟩
  by_cases h4 : t = 4
  · subst h4; cases h; exact ⟨.bool false, by kernel_rfl, rfl, rfl, fun h => by rw [hC 4 rfl] at h; cases h⟩
  by_cases h5 : t = 5
  · subst h5; cases h; exact ⟨.int .u8 0, by kernel_rfl, rfl, rfl, fun h => by rw [hC 5 rfl] at h; cases h⟩
  by_cases h9 : t = 9
  · subst h9; cases h; exact ⟨.str [], by kernel_rfl, rfl, rfl, fun h => by rw [hC 9 rfl] at h; cases h⟩
  by_cases h22 : t = 22
  · subst h22; cases h; exact ⟨.slc [], by kernel_rfl, rfl, rfl, fun h => by rw [hC 22 rfl] at h; cases h⟩
  by_cases h23 : t = 23
  · subst h23; cases h; exact ⟨.slc [], by kernel_rfl, rfl, rfl, fun h => by rw [hC 23 rfl] at h; cases h⟩
  by_cases h28 : t = 28
  · subst h28; cases h; exact ⟨.int .i64 0, by kernel_rfl, rfl, rfl, fun h => by rw [hC 28 rfl] at h; cases h⟩
  by_cases h31 : t = 31
  · subst h31; cases h; exact ⟨.slc [], by kernel_rfl, rfl, rfl, fun h => by rw [hC 31 rfl] at h; cases h⟩
  by_cases h39 : t = 39
  · subst h39; cases h; exact ⟨.agg [.str [], .slc []], by kernel_rfl, rfl, rfl, fun h => rfl⟩
  by_cases h46 : t = 46
  · subst h46; cases h; exact ⟨.slc [], by kernel_rfl, rfl, rfl, fun h => by rw [hC 46 rfl] at h; cases h⟩
  by_cases h49 : t = 49
  · subst h49; cases h; exact ⟨.agg [.int .u8 0, .str [], .int .i64 0, .str [], .bool false], by kernel_rfl, rfl, rfl, fun h => rfl⟩
  by_cases h51 : t = 51
  · subst h51; cases h; exact ⟨.agg [.int .u8 0, .str [], .int .i64 0, .str [], .bool false, .slc []], by kernel_rfl, rfl, rfl, fun h => rfl⟩
  by_cases h60 : t = 60
  · subst h60; cases h; exact ⟨.nilm, by kernel_rfl, rfl, rfl, fun h => by rw [hC 60 rfl] at h; cases h⟩
  by_cases h62 : t = 62
  · subst h62; cases h; exact ⟨.nilm, by kernel_rfl, rfl, rfl, fun h => by rw [hC 62 rfl] at h; cases h⟩
  by_cases h72 : t = 72
  · subst h72; cases h; exact ⟨.slc [], by kernel_rfl, rfl, rfl, fun h => by rw [hC 72 rfl] at h; cases h⟩
  by_cases h77 : t = 77
  · subst h77; cases h; exact ⟨.slc [], by kernel_rfl, rfl, rfl, fun h => by rw [hC 77 rfl] at h; cases h⟩
  by_cases h78 : t = 78
  · subst h78; cases h; exact ⟨.slc [], by kernel_rfl, rfl, rfl, fun h => by rw [hC 78 rfl] at h; cases h⟩
  by_cases h84 : t = 84
  · subst h84; cases h; exact ⟨.agg [.int .i64 0, .int .i64 0, .bool false], by kernel_rfl, rfl, rfl, fun h => rfl⟩
  by_cases h92 : t = 92
  · subst h92; cases h; exact ⟨.slc [], by kernel_rfl, rfl, rfl, fun h => by rw [hC 92 rfl] at h; cases h⟩
  by_cases h107 : t = 107
  · subst h107; cases h; exact ⟨.nilm, by kernel_rfl, rfl, rfl, fun h => by rw [hC 107 rfl] at h; cases h⟩
  change zcells t = some cs at h
  unfold zcells at h
  split at h <;> first | (exfalso; contradiction) | (cases h; done)
theorem hD (t : Nat) (h : U.dok t = true) : C.zero t = some (U.enc t (U.dflt t)) := by
  by_cases h2 : t = 2
  · subst h2; first | (cases h; done) | kernel_rfl
  by_cases h3 : t = 3
  · subst h3; first | (cases h; done) | kernel_rfl
  by_cases h4 : t = 4
  · subst h4; first | (cases h; done) | kernel_rfl
  by_cases h5 : t = 5
  · subst h5; first | (cases h; done) | kernel_rfl
  by_cases h9 : t = 9
  · subst h9; first | (cases h; done) | kernel_rfl
  by_cases h22 : t = 22
  · subst h22; first | (cases h; done) | kernel_rfl
  by_cases h23 : t = 23
  · subst h23; first | (cases h; done) | kernel_rfl
  by_cases h28 : t = 28
  · subst h28; first | (cases h; done) | kernel_rfl
  by_cases h31 : t = 31
  · subst h31; first | (cases h; done) | kernel_rfl
  by_cases h39 : t = 39
  · subst h39; first | (cases h; done) | kernel_rfl
  by_cases h46 : t = 46
  · subst h46; first | (cases h; done) | kernel_rfl
  by_cases h49 : t = 49
  · subst h49; first | (cases h; done) | kernel_rfl
  by_cases h51 : t = 51
  · subst h51; first | (cases h; done) | kernel_rfl
  by_cases h60 : t = 60
  · subst h60; first | (cases h; done) | kernel_rfl
  by_cases h62 : t = 62
  · subst h62; first | (cases h; done) | kernel_rfl
  by_cases h72 : t = 72
  · subst h72; first | (cases h; done) | kernel_rfl
  by_cases h77 : t = 77
  · subst h77; first | (cases h; done) | kernel_rfl
  by_cases h78 : t = 78
  · subst h78; first | (cases h; done) | kernel_rfl
  by_cases h84 : t = 84
  · subst h84; first | (cases h; done) | kernel_rfl
  by_cases h92 : t = 92
  · subst h92; first | (cases h; done) | kernel_rfl
  by_cases h107 : t = 107
  · subst h107; first | (cases h; done) | kernel_rfl
  change (tyB t).dok = true at h
  unfold tyB at h
  split at h <;> first | (exfalso; contradiction) | (cases h; done)
theorem hE (t : Nat) (f : U.X t → U.X t → Bool) (h : U.eqT t = some f) : C.P.eqGuardType C.P.depth t = false ∧ ∀ a b, U.enc t a = .agg (U.enc t a).cells ∧ Zmn C 100 t (U.enc t a) (U.enc t b) = some (f a b) := by
  by_cases h49 : t = 49
  · subst h49; cases h; refine ⟨by kernel_rfl, fun a b => ⟨rfl, ?_⟩⟩
    have key : ∀ b0 b1 b2 b3 b4 : Bool, (bif b0 then bif b1 then bif b2 then bif b3 then bif b4 then some true else some false else some false else some false else some false else some false) = some (b0 && b1 && b2 && b3 && b4) := by decide
    exact (show _ = _ by kernel_rfl : Zmn C 100 49 (U.enc 49 a) (U.enc 49 b) = (bif (a : Tok).k == (b : Tok).k then bif (a : Tok).t == (b : Tok).t then bif (a : Tok).n == (b : Tok).n then bif (a : Tok).u == (b : Tok).u then bif (a : Tok).f == (b : Tok).f then some true else some false else some false else some false else some false else some false)).trans (key _ _ _ _ _)
  by_cases h84 : t = 84
  · subst h84; cases h; refine ⟨by kernel_rfl, fun a b => ⟨rfl, ?_⟩⟩
    have key : ∀ b0 b1 b2 : Bool, (bif b0 then bif b1 then bif b2 then some true else some false else some false else some false) = some (b0 && b1 && b2) := by decide
    exact (show _ = _ by kernel_rfl : Zmn C 100 84 (U.enc 84 a) (U.enc 84 b) = (bif (a : Fnd).d == (b : Fnd).d then bif (a : Fnd).t == (b : Fnd).t then bif (a : Fnd).b == (b : Fnd).b then some true else some false else some false else some false)).trans (key _ _ _)
  change eqT t = some f at h
  unfold eqT at h
  split at h <;> first | (exfalso; contradiction) | (cases h; done)
theorem ok : U.Ok C where
  inj := YdB
  prj := YdC
  pack := YbT
  cells := Zy7
  csz := YcX
  ok := Yeu
  noagg := Zzh C hC
  agg := YdI C hC
  zcells := hZ
  dok := hD
  keq := Yde
  noMap := Zzt
  eqT := hE
  bytes := ZyY
end Go.Tev.S1
namespace Go.Tev.S1
open Go.Abs Go.Proofs
abbrev T1a : Type := Int → Option Int
abbrev T1b : Type := (List Val) × Int → Option Fnd
abbrev T1c : Type := (List Val) → Option Int
abbrev T1f : Type := (List Val) × Int → Option Int
abbrev T1g : Type := (List Val) × (List Val) → Option Bool
abbrev T1h : Type := (List UInt8) × (List UInt8) → Option Bool
abbrev P1a (K : Zaa) (t : T1a) : Prop := Zaj U (Zab C K) 66 ⟨true, [.ty 5], [5], t⟩
abbrev P1b (K : Zaa) (t : T1b) : Prop := Zaj U (Zab C K) 52 ⟨true, [.ty 22, .ty 5], [84], t⟩
abbrev P1c (K : Zaa) (t : T1a) : Prop := Zaj U (Zab C K) 47 ⟨true, [.ty 5], [5], t⟩
abbrev P1d (K : Zaa) (t : T1c) : Prop := Zaj U (Zab C K) 28 ⟨true, [.ty 22], [3], t⟩
abbrev P1g (K : Zaa) (t : T1f) : Prop := Zaj U (Zab C K) 27 ⟨true, [.ty 22, .ty 3], [3], t⟩
abbrev P1h (K : Zaa) (t : T1g) : Prop := Zaj U (Zab C K) 15 ⟨true, [.ty 22, .ty 22], [4], t⟩
abbrev P1i (K : Zaa) (t : T1h) : Prop := Zaj U (Zab C K) 89 ⟨true, [.ty 9, .ty 9], [4], t⟩
abbrev P1j (K : Zaa) (t : T1h) : Prop := Zaj U (Zab C K) 72 ⟨true, [.ty 9, .ty 9], [4], t⟩
def Zf6 (n : Nat) (p0 : Int) : Option Int :=
  cond (p0 == (2 : Int))
  (some (22 : Int))
  (Option.bind (some (cond (p0 == (21 : Int)) (p0 == (21 : Int)) (p0 == (23 : Int)))) fun m1 =>
  Option.bind (some (cond (p0 == (19 : Int)) (p0 == (19 : Int)) m1)) fun m2 =>
  cond m2
  (some (IntKind.u8.wrap (p0 + (1 : Int))))
  (some (0 : Int)))
abbrev ZoD : List (Nat × TCall X) := []
noncomputable abbrev Zeo : Cx := ⟨C, U, ZoD , [], fun _ => []⟩
theorem Zmh : okF (C.ann 66) Tryz.f66 1 = true := by kernel_rfl
noncomputable abbrev Zga (n : Nat) : Ze9 (Zeo ) (PX X [5]) := []
theorem Zou (n : Nat) : ∀ a, fnL (Zeo ) true 66 Tryz.f66 [.ty 5] [5] (Zga n) a = Zf6 n a := by
  intro a
  kernel_rfl
theorem Zmg {K : Zaa} : CallsOk (Zeo ) (Zab C K) :=
  ⟨ZaB, ZaC⟩
theorem Zi9 {K : Zaa} (hK : ∀ args h, K 66 args h = none) (t : PX X (AK.tys [.ty 5]) → Option (PX X [5])) (h : ∀ a r, t a = some r → ∃ n, Zf6 n a = some r) : Zaj U (Zab C K) 66 ⟨true, [.ty 5], [5], t⟩ := by
  refine Zav (x := Zeo ) (ak := [.ty 5]) (rts := [5]) (dir := true) ok (Zmg ) hK Tryz.func66 Zmh fun a r hr => ?_
  obtain ⟨n, hn⟩ := h a r hr
  exact ⟨n, Zga n, (Zau (show Zaq 0 (Zac Tryz.f66) = [] by kernel_rfl)), (Zou n a).trans hn⟩
def ZeP (n : Nat) (p0 : Int) : Option Int :=
  cond (p0 == (19 : Int))
  (some (20 : Int))
  (Option.bind (some (cond (p0 == (21 : Int)) (p0 == (21 : Int)) (p0 == (2 : Int)))) fun m1 =>
  cond m1
  (some (22 : Int))
  (cond (p0 == (23 : Int))
  (some (24 : Int))
  (some (0 : Int))))
abbrev ZmD : List (Nat × TCall X) := []
noncomputable abbrev ZdO : Cx := ⟨C, U, ZmD , [], fun _ => []⟩
theorem Zlb : okF (C.ann 47) Tryz.f47 1 = true := by kernel_rfl
noncomputable abbrev Zfe (n : Nat) : Ze9 (ZdO ) (PX X [5]) := []
theorem Zmb (n : Nat) : ∀ a, fnL (ZdO ) true 47 Tryz.f47 [.ty 5] [5] (Zfe n) a = ZeP n a := by
  intro a
  kernel_rfl
theorem Zk3 {K : Zaa} : CallsOk (ZdO ) (Zab C K) :=
  ⟨ZaB, ZaC⟩
theorem ZiK {K : Zaa} (hK : ∀ args h, K 47 args h = none) (t : PX X (AK.tys [.ty 5]) → Option (PX X [5])) (h : ∀ a r, t a = some r → ∃ n, ZeP n a = some r) : Zaj U (Zab C K) 47 ⟨true, [.ty 5], [5], t⟩ := by
  refine Zav (x := ZdO ) (ak := [.ty 5]) (rts := [5]) (dir := true) ok (Zk3 ) hK Tryz.func47 Zlb fun a r hr => ?_
  obtain ⟨n, hn⟩ := h a r hr
  exact ⟨n, Zfe n, (Zau (show Zaq 0 (Zac Tryz.f47) = [] by kernel_rfl)), (Zmb n a).trans hn⟩
def Ze5 (qa : T1a) (qb : T1b) {R : Type} (n : Nat) (a1 : Int) (a10 : List Val) (a11 : Int) (kx0 : (Int × Int × Bool) → (Int × Int × Bool) → Option R) (y4 : Int × Int × Bool) (y5 : Int × Int × Bool) (y12 : Int) (k : (Int × Int × Bool) → (Int × Int × Bool) → Int → Option R) : Option R :=
  cond (decide (y12 < a11))
  (Option.bind (ZeC a10 y12) fun x3 =>
  Option.bind (qa x3.tok.k) fun r4 =>
  Option.bind (some (cond (a1 != (0 : Int)) (x3.tok.k == a1) false)) fun m5 =>
  Option.bind (cond (!m5) (some (cond (r4 == (0 : Int)) (decide ((x3.l.length : Int) > (0 : Int))) false)) (some (decide ((x3.l.length : Int) > (0 : Int))))) fun m6 =>
  Option.bind (some (cond m5 true m6)) fun m7 =>
  Option.bind (some (cond m7 y4.1 y4.1)) fun m8 =>
  Option.bind (some (cond m7 y4.2.1 y4.2.1)) fun m9 =>
  Option.bind (some (cond m7 y4.2.2 y4.2.2)) fun m10 =>
  Option.bind (some (cond m7 y5.1 y5.1)) fun m11 =>
  Option.bind (some (cond m7 (IntKind.i64.wrap (y5.2.1 + (1 : Int))) (IntKind.i64.wrap (y5.2.1 + (1 : Int))))) fun m12 =>
  Option.bind (some (cond m7 true y5.2.2)) fun m13 =>
  Option.bind (some (cond m7 x3.tok.k x3.tok.k)) fun m14 =>
  Option.bind (some (cond m7 x3.tok.t x3.tok.t)) fun m15 =>
  Option.bind (some (cond m7 x3.tok.n x3.tok.n)) fun m16 =>
  Option.bind (some (cond m7 x3.tok.u x3.tok.u)) fun m17 =>
  Option.bind (some (cond m7 x3.tok.f x3.tok.f)) fun m18 =>
  Option.bind (some (cond m7 x3.l x3.l)) fun m19 =>
  cond (r4 == (0 : Int))
  (k (m8, m9, m10) (m11, m12, m13) (IntKind.i64.wrap (y12 + (1 : Int))))
  (Option.bind (qb (m19, r4)) fun r20 =>
  Option.bind (some (cond m13 true r20.b)) fun m21 =>
  k (m8, m9, m10) ((if IntKind.i64.wrap (r20.d + (1 : Int)) > m11 then IntKind.i64.wrap (r20.d + (1 : Int)) else m11), IntKind.i64.wrap ((IntKind.i64.wrap (m12 + r20.t)) + (1 : Int)), m21) (IntKind.i64.wrap (y12 + (1 : Int)))))
  (kx0 (y4.1, y4.2.1, y4.2.2) (y5.1, y5.2.1, y5.2.2))
def ZiT (qa : T1a) (qb : T1b) (n : Nat) (p0 : List Val) (p1 : Int) : Option Fnd :=
  ZoG (Ze5 qa qb n p1 p0 (p0.length : Int) (fun z1 z2 =>
  some (Fnd.mk z2.1 z2.2.1 z2.2.2))) n ((0 : Int), (0 : Int), false) ((0 : Int), (0 : Int), false) (0 : Int)
abbrev Zsb (qa : T1a) (qb : T1b) : List (Nat × TCall X) := [(66, ⟨true, [.ty 5], [5], qa⟩), (52, ⟨true, [.ty 22, .ty 5], [84], qb⟩)]
noncomputable abbrev Zc0 (qa : T1a) (qb : T1b) : Cx := ⟨C, U, Zsb qa qb, [], fun _ => []⟩
theorem Zp7 : okF (C.ann 52) Tryz.f52 2 = true := by kernel_rfl
abbrev nest_look_L0_D : LD := ⟨0, [.val 1 5, .val 10 22, .val 11 2], [.box 4 [2, 2, 4], .box 5 [2, 2, 4], .val 12 2], [(0, [.box 4 [2, 2, 4], .box 5 [2, 2, 4]])], []⟩
abbrev ZdP (qa : T1a) (qb : T1b) (n : Nat) : LG U (PX X [84]) nest_look_L0_D := fun c kx kr y k => Ze5 qa qb n c.1 c.2.1 c.2.2.1 (fun z0 z1 => kx 0 (z0, z1, ())) y.1 y.2.1 y.2.2.1 (fun z0 z1 z2 => k (z0, z1, z2, ()))
noncomputable abbrev ZdT (qa : T1a) (qb : T1b) (n : Nat) : Ze9 (Zc0 qa qb) (PX X [84]) := [(0, ZfA U nest_look_L0_D (ZdP qa qb n) n)]
theorem Zmc (qa : T1a) (qb : T1b) (n : Nat) : ∀ c kx kr y k1, evL (Zc0 qa qb) (ann 52) (ZdT qa qb n) 0 (Zat (Zac Tryz.f52) 0) (ZeN U nest_look_L0_D kx kr k1) (encS U nest_look_L0_D.cap nest_look_L0_D.din c y) = ZdP qa qb n c (fun i z => kx i c z) kr y (fun y2 => k1 c y2) := by
  intro c kx kr y k1
  kernel_rfl
theorem ZrR (qa : T1a) (qb : T1b) (n : Nat) : ∀ a, fnL (Zc0 qa qb) true 52 Tryz.f52 [.ty 22, .ty 5] [84] (ZdT qa qb n) a = ZiT qa qb n a.1 a.2 := by
  intro a
  kernel_rfl
theorem Zj3 {K : Zaa} (qa : T1a) (qb : T1b) (h0 : P1a K qa) (h1 : P1b K qb) : CallsOk (Zc0 qa qb) (Zab C K) :=
  ⟨(Zag h0 (Zag h1 ZaB)), ZaC⟩
theorem Zku {K : Zaa} (qa : T1a) (qb : T1b) (h0 : P1a K qa) (h1 : P1b K qb) (n : Nat) (b0 : Base) (bn0 : b0.nr ≤ 0) : Law (Zc0 qa qb) b0 (Zab C K) (ann 52) n (Zat (Zac Tryz.f52) 0) (ZfA U nest_look_L0_D (ZdP qa qb n) n) :=
  ZdA (x := Zc0 qa qb) (id := 0) ok (Zj3 qa qb h0 h1) (sums := ZdT qa qb n) (Zau (show Zaq 0 (Zat (Zac Tryz.f52) 0) = [] by kernel_rfl)) nest_look_L0_D bn0 (ZdP qa qb n) (Zmc qa qb n)
theorem ZlE {K : Zaa} (hK : ∀ args h, K 52 args h = none) (qa : T1a) (qb : T1b) (h0 : P1a K qa) (h1 : P1b K qb) (t : PX X (AK.tys [.ty 22, .ty 5]) → Option (PX X [84])) (h : ∀ a r, t a = some r → ∃ n, ZiT qa qb n a.1 a.2 = some r) : Zaj U (Zab C K) 52 ⟨true, [.ty 22, .ty 5], [84], t⟩ := by
  refine Zav (x := Zc0 qa qb) (ak := [.ty 22, .ty 5]) (rts := [84]) (dir := true) ok (Zj3 qa qb h0 h1) hK Tryz.func52 Zp7 fun a r hr => ?_
  obtain ⟨n, hn⟩ := h a r hr
  exact ⟨n, ZdT qa qb n, (Zby (ids := [0]) (by kernel_rfl) (by decide) (fun i hi => by
    simp only [List.mem_cons, List.not_mem_nil, or_false] at hi
    rcases hi with rfl
    · exact Zbw (c2 := Zat (Zac Tryz.f52) 0) (by kernel_rfl) (by kernel_rfl) (Zku qa qb h0 h1 _ _ (Nat.le_refl _))
    )), (ZrR qa qb n a).trans hn⟩
def Zha (qb : T1b) (n : Nat) (p0 : List Val) : Option Int :=
  Option.bind (qb (p0, (0 : Int))) fun r1 =>
  cond (decide (r1.d > (16 : Int)))
  (some (20 : Int))
  (cond (decide (r1.t > (1500 : Int)))
  (some (4 : Int))
  (cond r1.b
  (some (8 : Int))
  (some (0 : Int))))
abbrev ZqA (qb : T1b) : List (Nat × TCall X) := [(52, ⟨true, [.ty 22, .ty 5], [84], qb⟩)]
noncomputable abbrev ZeQ (qb : T1b) : Cx := ⟨C, U, ZqA qb, [], fun _ => []⟩
theorem Zno : okF (C.ann 33) Tryz.f33 1 = true := by kernel_rfl
noncomputable abbrev ZgL (qb : T1b) (n : Nat) : Ze9 (ZeQ qb) (PX X [28]) := []
theorem Zpf (qb : T1b) (n : Nat) : ∀ a, fnL (ZeQ qb) true 33 Tryz.f33 [.ty 22] [28] (ZgL qb n) a = Zha qb n a := by
  intro a
  kernel_rfl
theorem Zow {K : Zaa} (qb : T1b) (h0 : P1b K qb) : CallsOk (ZeQ qb) (Zab C K) :=
  ⟨(Zag h0 ZaB), ZaC⟩
theorem Zky {K : Zaa} (hK : ∀ args h, K 33 args h = none) (qb : T1b) (h0 : P1b K qb) (t : PX X (AK.tys [.ty 22]) → Option (PX X [28])) (h : ∀ a r, t a = some r → ∃ n, Zha qb n a = some r) : Zaj U (Zab C K) 33 ⟨true, [.ty 22], [28], t⟩ := by
  refine Zav (x := ZeQ qb) (ak := [.ty 22]) (rts := [28]) (dir := true) ok (Zow qb h0) hK Tryz.func33 Zno fun a r hr => ?_
  obtain ⟨n, hn⟩ := h a r hr
  exact ⟨n, ZgL qb n, (Zau (show Zaq 0 (Zac Tryz.f33) = [] by kernel_rfl)), (Zpf qb n a).trans hn⟩
def Zep (qc : T1a) (qd : T1c) {R : Type} (n : Nat) (a0 : List Val) (a2 : Int) (kx0 : Int → Option R) (y3 : Int) (y4 : Int) (k : Int → Int → Option R) : Option R :=
  cond (decide (y4 < (a0.length : Int)))
  (Option.bind (ZeC a0 y4) fun x2 =>
  Option.bind (qc x2.tok.k) fun r3 =>
  Option.bind (cond (r3 != (0 : Int)) (ZeC a0 y4) (some Ybg)) fun x4 =>
  Option.bind (cond (r3 != (0 : Int)) (qd x4.l) (some (0 : Int))) fun r5 =>
  Option.bind (some (cond (r3 != (0 : Int)) (if IntKind.i64.wrap ((1 : Int) + r5) > y3 then IntKind.i64.wrap ((1 : Int) + r5) else y3) y3)) fun m6 =>
  k m6 (IntKind.i64.wrap (y4 + (1 : Int))))
  (kx0 y3)
def Zg5 (qc : T1a) (qd : T1c) (n : Nat) (p0 : List Val) : Option Int :=
  Zgp (Zep qc qd n p0 (0 : Int) (fun z1 =>
  some z1)) n (0 : Int) (0 : Int)
abbrev Zp6 (qc : T1a) (qd : T1c) : List (Nat × TCall X) := [(47, ⟨true, [.ty 5], [5], qc⟩), (28, ⟨true, [.ty 22], [3], qd⟩)]
noncomputable abbrev Zcp (qc : T1a) (qd : T1c) : Cx := ⟨C, U, Zp6 qc qd, [], fun _ => []⟩
theorem ZnX : okF (C.ann 28) Tryz.f28 1 = true := by kernel_rfl
abbrev ref04_Deep_L0_D : LD := ⟨0, [.val 0 22, .val 2 2], [.val 3 2, .val 4 2], [(0, [.val 3 2])], []⟩
abbrev Zdo (qc : T1a) (qd : T1c) (n : Nat) : LG U (PX X [3]) ref04_Deep_L0_D := fun c kx kr y k => Zep qc qd n c.1 c.2.1 (fun z0 => kx 0 (z0, ())) y.1 y.2.1 (fun z0 z1 => k (z0, z1, ()))
noncomputable abbrev Zda (qc : T1a) (qd : T1c) (n : Nat) : Ze9 (Zcp qc qd) (PX X [3]) := [(0, ZfA U ref04_Deep_L0_D (Zdo qc qd n) n)]
theorem ZlR (qc : T1a) (qd : T1c) (n : Nat) : ∀ c kx kr y k1, evL (Zcp qc qd) (ann 28) (Zda qc qd n) 0 (Zat (Zac Tryz.f28) 0) (ZeN U ref04_Deep_L0_D kx kr k1) (encS U ref04_Deep_L0_D.cap ref04_Deep_L0_D.din c y) = Zdo qc qd n c (fun i z => kx i c z) kr y (fun y2 => k1 c y2) := by
  intro c kx kr y k1
  kernel_rfl
theorem Zq3 (qc : T1a) (qd : T1c) (n : Nat) : ∀ a, fnL (Zcp qc qd) true 28 Tryz.f28 [.ty 22] [3] (Zda qc qd n) a = Zg5 qc qd n a := by
  intro a
  kernel_rfl
theorem Zi0 {K : Zaa} (qc : T1a) (qd : T1c) (h0 : P1c K qc) (h1 : P1d K qd) : CallsOk (Zcp qc qd) (Zab C K) :=
  ⟨(Zag h0 (Zag h1 ZaB)), ZaC⟩
theorem Zjb {K : Zaa} (qc : T1a) (qd : T1c) (h0 : P1c K qc) (h1 : P1d K qd) (n : Nat) (b0 : Base) (bn0 : b0.nr ≤ 0) : Law (Zcp qc qd) b0 (Zab C K) (ann 28) n (Zat (Zac Tryz.f28) 0) (ZfA U ref04_Deep_L0_D (Zdo qc qd n) n) :=
  ZdA (x := Zcp qc qd) (id := 0) ok (Zi0 qc qd h0 h1) (sums := Zda qc qd n) (Zau (show Zaq 0 (Zat (Zac Tryz.f28) 0) = [] by kernel_rfl)) ref04_Deep_L0_D bn0 (Zdo qc qd n) (ZlR qc qd n)
theorem Zkp {K : Zaa} (hK : ∀ args h, K 28 args h = none) (qc : T1a) (qd : T1c) (h0 : P1c K qc) (h1 : P1d K qd) (t : PX X (AK.tys [.ty 22]) → Option (PX X [3])) (h : ∀ a r, t a = some r → ∃ n, Zg5 qc qd n a = some r) : Zaj U (Zab C K) 28 ⟨true, [.ty 22], [3], t⟩ := by
  refine Zav (x := Zcp qc qd) (ak := [.ty 22]) (rts := [3]) (dir := true) ok (Zi0 qc qd h0 h1) hK Tryz.func28 ZnX fun a r hr => ?_
  obtain ⟨n, hn⟩ := h a r hr
  exact ⟨n, Zda qc qd n, (Zby (ids := [0]) (by kernel_rfl) (by decide) (fun i hi => by
    simp only [List.mem_cons, List.not_mem_nil, or_false] at hi
    rcases hi with rfl
    · exact Zbw (c2 := Zat (Zac Tryz.f28) 0) (by kernel_rfl) (by kernel_rfl) (Zjb qc qd h0 h1 _ _ (Nat.le_refl _))
    )), (Zq3 qc qd n a).trans hn⟩
def ZfD (qg : T1f) (qd : T1c) (n : Nat) (p0 : List Val) : Option Bool :=
  Option.bind (qg (p0, (300 : Int))) fun r1 =>
  Option.bind (cond (!(decide (r1 > (300 : Int)))) (qd p0) (some (0 : Int))) fun r2 =>
  Option.bind (some (cond (decide (r1 > (300 : Int))) true (decide (r2 > (40 : Int))))) fun m3 =>
  some m3
abbrev ZoR (qg : T1f) (qd : T1c) : List (Nat × TCall X) := [(27, ⟨true, [.ty 22, .ty 3], [3], qg⟩), (28, ⟨true, [.ty 22], [3], qd⟩)]
noncomputable abbrev Zen (qg : T1f) (qd : T1c) : Cx := ⟨C, U, ZoR qg qd, [], fun _ => []⟩
theorem ZmB : okF (C.ann 9) Tryz.f9 1 = true := by kernel_rfl
noncomputable abbrev Zgb (qg : T1f) (qd : T1c) (n : Nat) : Ze9 (Zen qg qd) (PX X [4]) := []
theorem Zog (qg : T1f) (qd : T1c) (n : Nat) : ∀ a, fnL (Zen qg qd) true 9 Tryz.f9 [.ty 22] [4] (Zgb qg qd n) a = ZfD qg qd n a := by
  intro a
  kernel_rfl
theorem ZmF {K : Zaa} (qg : T1f) (qd : T1c) (h0 : P1g K qg) (h1 : P1d K qd) : CallsOk (Zen qg qd) (Zab C K) :=
  ⟨(Zag h0 (Zag h1 ZaB)), ZaC⟩
theorem Zi5 {K : Zaa} (hK : ∀ args h, K 9 args h = none) (qg : T1f) (qd : T1c) (h0 : P1g K qg) (h1 : P1d K qd) (t : PX X (AK.tys [.ty 22]) → Option (PX X [4])) (h : ∀ a r, t a = some r → ∃ n, ZfD qg qd n a = some r) : Zaj U (Zab C K) 9 ⟨true, [.ty 22], [4], t⟩ := by
  refine Zav (x := Zen qg qd) (ak := [.ty 22]) (rts := [4]) (dir := true) ok (ZmF qg qd h0 h1) hK Tryz.func9 ZmB fun a r hr => ?_
  obtain ⟨n, hn⟩ := h a r hr
  exact ⟨n, Zgb qg qd n, (Zau (show Zaq 0 (Zac Tryz.f9) = [] by kernel_rfl)), (Zog qg qd n a).trans hn⟩
def Zcw (qg : T1f) {R : Type} (n : Nat) (a0 : List Val) (a1 : Int) (a4 : Int) (kx0 : Int → Option R) (y5 : Int) (y6 : Int) (k : Int → Int → Option R) : Option R :=
  Option.bind (some (cond (decide (y6 < (a0.length : Int))) (decide (y5 ≤ a1)) false)) fun m2 =>
  cond m2
  (Option.bind (ZeC a0 y6) fun x3 =>
  Option.bind (ZeC a0 y6) fun x4 =>
  Option.bind (ZeC a0 y6) fun x5 =>
  Option.bind (qg (x5.l, IntKind.i64.wrap (a1 - y5))) fun r6 =>
  k (IntKind.i64.wrap (y5 + (IntKind.i64.wrap ((IntKind.i64.wrap ((IntKind.i64.wrap ((1 : Int) + (x3.tok.t.length : Int))) + (x4.tok.u.length : Int))) + r6)))) (IntKind.i64.wrap (y6 + (1 : Int))))
  (kx0 y5)
def Zg2 (qg : T1f) (n : Nat) (p0 : List Val) (p1 : Int) : Option Int :=
  Zgp (Zcw qg n p0 p1 (0 : Int) (fun z1 =>
  some z1)) n (0 : Int) (0 : Int)
abbrev Zo6 (qg : T1f) : List (Nat × TCall X) := [(27, ⟨true, [.ty 22, .ty 3], [3], qg⟩)]
noncomputable abbrev Zck (qg : T1f) : Cx := ⟨C, U, Zo6 qg, [], fun _ => []⟩
theorem Znl : okF (C.ann 27) Tryz.f27 2 = true := by kernel_rfl
abbrev ref04_Size_L0_D : LD := ⟨0, [.val 0 22, .val 1 2, .val 4 2], [.val 5 2, .val 6 2], [(0, [.val 5 2])], []⟩
abbrev Zdb (qg : T1f) (n : Nat) : LG U (PX X [3]) ref04_Size_L0_D := fun c kx kr y k => Zcw qg n c.1 c.2.1 c.2.2.1 (fun z0 => kx 0 (z0, ())) y.1 y.2.1 (fun z0 z1 => k (z0, z1, ()))
noncomputable abbrev Zdj (qg : T1f) (n : Nat) : Ze9 (Zck qg) (PX X [3]) := [(0, ZfA U ref04_Size_L0_D (Zdb qg n) n)]
theorem ZlJ (qg : T1f) (n : Nat) : ∀ c kx kr y k1, evL (Zck qg) (ann 27) (Zdj qg n) 0 (Zat (Zac Tryz.f27) 0) (ZeN U ref04_Size_L0_D kx kr k1) (encS U ref04_Size_L0_D.cap ref04_Size_L0_D.din c y) = Zdb qg n c (fun i z => kx i c z) kr y (fun y2 => k1 c y2) := by
  intro c kx kr y k1
  kernel_rfl
theorem Zpv (qg : T1f) (n : Nat) : ∀ a, fnL (Zck qg) true 27 Tryz.f27 [.ty 22, .ty 3] [3] (Zdj qg n) a = Zg2 qg n a.1 a.2 := by
  intro a
  kernel_rfl
theorem Zik {K : Zaa} (qg : T1f) (h0 : P1g K qg) : CallsOk (Zck qg) (Zab C K) :=
  ⟨(Zag h0 ZaB), ZaC⟩
theorem Zja {K : Zaa} (qg : T1f) (h0 : P1g K qg) (n : Nat) (b0 : Base) (bn0 : b0.nr ≤ 0) : Law (Zck qg) b0 (Zab C K) (ann 27) n (Zat (Zac Tryz.f27) 0) (ZfA U ref04_Size_L0_D (Zdb qg n) n) :=
  ZdA (x := Zck qg) (id := 0) ok (Zik qg h0) (sums := Zdj qg n) (Zau (show Zaq 0 (Zat (Zac Tryz.f27) 0) = [] by kernel_rfl)) ref04_Size_L0_D bn0 (Zdb qg n) (ZlJ qg n)
theorem Zko {K : Zaa} (hK : ∀ args h, K 27 args h = none) (qg : T1f) (h0 : P1g K qg) (t : PX X (AK.tys [.ty 22, .ty 3]) → Option (PX X [3])) (h : ∀ a r, t a = some r → ∃ n, Zg2 qg n a.1 a.2 = some r) : Zaj U (Zab C K) 27 ⟨true, [.ty 22, .ty 3], [3], t⟩ := by
  refine Zav (x := Zck qg) (ak := [.ty 22, .ty 3]) (rts := [3]) (dir := true) ok (Zik qg h0) hK Tryz.func27 Znl fun a r hr => ?_
  obtain ⟨n, hn⟩ := h a r hr
  exact ⟨n, Zdj qg n, (Zby (ids := [0]) (by kernel_rfl) (by decide) (fun i hi => by
    simp only [List.mem_cons, List.not_mem_nil, or_false] at hi
    rcases hi with rfl
    · exact Zbw (c2 := Zat (Zac Tryz.f27) 0) (by kernel_rfl) (by kernel_rfl) (Zja qg h0 _ _ (Nat.le_refl _))
    )), (Zpv qg n a).trans hn⟩
def Zee (qh : T1g) {R : Type} (n : Nat) (a0 : List Val) (a1 : List Val) (kx0 : Bool → Option R) (kr : Bool → Option R) (y4 : Bool) (y5 : Int) (k : Bool → Int → Option R) : Option R :=
  cond (decide (y5 < (a0.length : Int)))
  (Option.bind (ZeC a0 y5) fun x3 =>
  Option.bind (ZeC a1 y5) fun x4 =>
  Option.bind (cond (!(!(Tok.eqb x3.tok x4.tok))) (ZeC a0 y5) (some Ybg)) fun x5 =>
  Option.bind (cond (!(!(Tok.eqb x3.tok x4.tok))) (ZeC a1 y5) (some Ybg)) fun x6 =>
  Option.bind (cond (!(!(Tok.eqb x3.tok x4.tok))) (qh (x5.l, x6.l)) (some false)) fun r7 =>
  Option.bind (some (cond (!(Tok.eqb x3.tok x4.tok)) true (!r7))) fun m8 =>
  cond m8
  (kr false)
  (k y4 (IntKind.i64.wrap (y5 + (1 : Int)))))
  (kx0 y4)
def Zg8 (qh : T1g) (n : Nat) (p0 : List Val) (p1 : List Val) : Option Bool :=
  cond ((p0.length : Int) != (p1.length : Int))
  (some false)
  (Zgp (Zee qh n p0 p1 (fun z1 =>
  some true) (fun z2 =>
  some z2)) n false (0 : Int))
abbrev ZqP (qh : T1g) : List (Nat × TCall X) := [(15, ⟨true, [.ty 22, .ty 22], [4], qh⟩)]
noncomputable abbrev Zcj (qh : T1g) : Cx := ⟨C, U, ZqP qh, [], fun _ => []⟩
theorem Zoy : okF (C.ann 15) Tryz.f15 2 = true := by kernel_rfl
abbrev ref04_Same_L0_D : LD := ⟨0, [.val 0 22, .val 1 22], [.val 4 4, .val 5 2], [(0, [.val 4 4])], [.val 4 4]⟩
abbrev Zdc (qh : T1g) (n : Nat) : LG U (PX X [4]) ref04_Same_L0_D := fun c kx kr y k => Zee qh n c.1 c.2.1 (fun z0 => kx 0 (z0, ())) (fun z0 => kr (z0, ())) y.1 y.2.1 (fun z0 z1 => k (z0, z1, ()))
noncomputable abbrev Zdl (qh : T1g) (n : Nat) : Ze9 (Zcj qh) (PX X [4]) := [(0, ZfA U ref04_Same_L0_D (Zdc qh n) n)]
theorem ZkK (qh : T1g) (n : Nat) : ∀ c kx kr y k1, evL (Zcj qh) (ann 15) (Zdl qh n) 0 (Zat (Zac Tryz.f15) 0) (ZeN U ref04_Same_L0_D kx kr k1) (encS U ref04_Same_L0_D.cap ref04_Same_L0_D.din c y) = Zdc qh n c (fun i z => kx i c z) kr y (fun y2 => k1 c y2) := by
  intro c kx kr y k1
  kernel_rfl
theorem ZqM (qh : T1g) (n : Nat) : ∀ a, fnL (Zcj qh) true 15 Tryz.f15 [.ty 22, .ty 22] [4] (Zdl qh n) a = Zg8 qh n a.1 a.2 := by
  intro a
  kernel_rfl
theorem Ziy {K : Zaa} (qh : T1g) (h0 : P1h K qh) : CallsOk (Zcj qh) (Zab C K) :=
  ⟨(Zag h0 ZaB), ZaC⟩
theorem Zjz {K : Zaa} (qh : T1g) (h0 : P1h K qh) (n : Nat) (b0 : Base) (bn0 : b0.nr ≤ 0) : Law (Zcj qh) b0 (Zab C K) (ann 15) n (Zat (Zac Tryz.f15) 0) (ZfA U ref04_Same_L0_D (Zdc qh n) n) :=
  ZdA (x := Zcj qh) (id := 0) ok (Ziy qh h0) (sums := Zdl qh n) (Zau (show Zaq 0 (Zat (Zac Tryz.f15) 0) = [] by kernel_rfl)) ref04_Same_L0_D bn0 (Zdc qh n) (ZkK qh n)
theorem Zkj {K : Zaa} (hK : ∀ args h, K 15 args h = none) (qh : T1g) (h0 : P1h K qh) (t : PX X (AK.tys [.ty 22, .ty 22]) → Option (PX X [4])) (h : ∀ a r, t a = some r → ∃ n, Zg8 qh n a.1 a.2 = some r) : Zaj U (Zab C K) 15 ⟨true, [.ty 22, .ty 22], [4], t⟩ := by
  refine Zav (x := Zcj qh) (ak := [.ty 22, .ty 22]) (rts := [4]) (dir := true) ok (Ziy qh h0) hK Tryz.func15 Zoy fun a r hr => ?_
  obtain ⟨n, hn⟩ := h a r hr
  exact ⟨n, Zdl qh n, (Zby (ids := [0]) (by kernel_rfl) (by decide) (fun i hi => by
    simp only [List.mem_cons, List.not_mem_nil, or_false] at hi
    rcases hi with rfl
    · exact Zbw (c2 := Zat (Zac Tryz.f15) 0) (by kernel_rfl) (by kernel_rfl) (Zjz qh h0 _ _ (Nat.le_refl _))
    )), (ZqM qh n a).trans hn⟩
def Zfh (qi : T1h) (n : Nat) (p0 : List UInt8) (p1 : List UInt8) : Option Bool :=
  Option.bind (qi (p0, p1)) fun r1 =>
  some r1
abbrev ZhZ (qi : T1h) : List (Nat × TCall X) := [(89, ⟨true, [.ty 9, .ty 9], [4], qi⟩)]
noncomputable abbrev Zb6 (qi : T1h) : Cx := ⟨C, U, ZhZ qi, [], fun _ => []⟩
theorem Zhu : okF (C.ann 72) Tryz.f72 2 = true := by kernel_rfl
noncomputable abbrev ZdB (qi : T1h) (n : Nat) : Ze9 (Zb6 qi) (PX X [4]) := []
theorem ZhU (qi : T1h) (n : Nat) : ∀ a, fnL (Zb6 qi) true 72 Tryz.f72 [.ty 9, .ty 9] [4] (ZdB qi n) a = Zfh qi n a.1 a.2 := by
  intro a
  kernel_rfl
theorem Zhs {K : Zaa} (qi : T1h) (h0 : P1i K qi) : CallsOk (Zb6 qi) (Zab C K) :=
  ⟨(Zag h0 ZaB), ZaC⟩
theorem ZfV {K : Zaa} (hK : ∀ args h, K 72 args h = none) (qi : T1h) (h0 : P1i K qi) (t : PX X (AK.tys [.ty 9, .ty 9]) → Option (PX X [4])) (h : ∀ a r, t a = some r → ∃ n, Zfh qi n a.1 a.2 = some r) : Zaj U (Zab C K) 72 ⟨true, [.ty 9, .ty 9], [4], t⟩ := by
  refine Zav (x := Zb6 qi) (ak := [.ty 9, .ty 9]) (rts := [4]) (dir := true) ok (Zhs qi h0) hK Tryz.func72 Zhu fun a r hr => ?_
  obtain ⟨n, hn⟩ := h a r hr
  exact ⟨n, ZdB qi n, (Zau (show Zaq 0 (Zac Tryz.f72) = [] by kernel_rfl)), (ZhU qi n a).trans hn⟩
def ZaP (n : Nat) (p0 : List UInt8) (p1 : List UInt8) : Option Bool :=
  Option.bind (cond (decide ((p0.length : Int) ≥ (p1.length : Int))) (Zs2 p0 (0 : Int) (p1.length : Int)) (some [])) fun s1 =>
  Option.bind (some (cond (decide ((p0.length : Int) ≥ (p1.length : Int))) (s1 == p1) false)) fun m2 =>
  some m2
abbrev Zdz : List (Nat × TCall X) := []
noncomputable abbrev ZaK : Cx := ⟨C, U, Zdz , [], fun _ => []⟩
theorem Zc9 : okF (C.ann 89) Tryz.f89 2 = true := by kernel_rfl
noncomputable abbrev Zbr (n : Nat) : Ze9 (ZaK ) (PX X [4]) := []
theorem Zdy (n : Nat) : ∀ a, fnL (ZaK ) true 89 Tryz.f89 [.ty 9, .ty 9] [4] (Zbr n) a = ZaP n a.1 a.2 := by
  intro a
  kernel_rfl
theorem Zdn {K : Zaa} : CallsOk (ZaK ) (Zab C K) :=
  ⟨ZaB, ZaC⟩
theorem ZcH {K : Zaa} (hK : ∀ args h, K 89 args h = none) (t : PX X (AK.tys [.ty 9, .ty 9]) → Option (PX X [4])) (h : ∀ a r, t a = some r → ∃ n, ZaP n a.1 a.2 = some r) : Zaj U (Zab C K) 89 ⟨true, [.ty 9, .ty 9], [4], t⟩ := by
  refine Zav (x := ZaK ) (ak := [.ty 9, .ty 9]) (rts := [4]) (dir := true) ok (Zdn ) hK Tryz.func89 Zc9 fun a r hr => ?_
  obtain ⟨n, hn⟩ := h a r hr
  exact ⟨n, Zbr n, (Zau (show Zaq 0 (Zac Tryz.f89) = [] by kernel_rfl)), (Zdy n a).trans hn⟩
def ZeZ (qj : T1h) (n : Nat) (p0 : List UInt8) : Option Bool :=
  Option.bind (qj (p0, [45, 45])) fun r1 =>
  Option.bind (some (cond r1 (decide ((p0.length : Int) > (2 : Int))) false)) fun m2 =>
  Option.bind (some (cond m2 (decide ((p0.length : Int) ≤ (64 : Int))) false)) fun m3 =>
  some m3
abbrev Zl6 (qj : T1h) : List (Nat × TCall X) := [(72, ⟨true, [.ty 9, .ty 9], [4], qj⟩)]
noncomputable abbrev ZdR (qj : T1h) : Cx := ⟨C, U, Zl6 qj, [], fun _ => []⟩
theorem Zk0 : okF (C.ann 61) Tryz.f61 1 = true := by kernel_rfl
noncomputable abbrev Zfj (qj : T1h) (n : Nat) : Ze9 (ZdR qj) (PX X [4]) := []
theorem Zmk (qj : T1h) (n : Nat) : ∀ a, fnL (ZdR qj) true 61 Tryz.f61 [.ty 9] [4] (Zfj qj n) a = ZeZ qj n a := by
  intro a
  kernel_rfl
theorem Zlo {K : Zaa} (qj : T1h) (h0 : P1j K qj) : CallsOk (ZdR qj) (Zab C K) :=
  ⟨(Zag h0 ZaB), ZaC⟩
theorem ZiW {K : Zaa} (hK : ∀ args h, K 61 args h = none) (qj : T1h) (h0 : P1j K qj) (t : PX X (AK.tys [.ty 9]) → Option (PX X [4])) (h : ∀ a r, t a = some r → ∃ n, ZeZ qj n a = some r) : Zaj U (Zab C K) 61 ⟨true, [.ty 9], [4], t⟩ := by
  refine Zav (x := ZdR qj) (ak := [.ty 9]) (rts := [4]) (dir := true) ok (Zlo qj h0) hK Tryz.func61 Zk0 fun a r hr => ?_
  obtain ⟨n, hn⟩ := h a r hr
  exact ⟨n, Zfj qj n, (Zau (show Zaq 0 (Zac Tryz.f61) = [] by kernel_rfl)), (Zmk qj n a).trans hn⟩
def ZdS {R : Type} (n : Nat) (a2 : List UInt8) (a3 : Nat) (a8 : Nat) (a9 : Int) (kx0 : List Int → Option R) (y10 : Int) (h1 : List Int) (k : Int → List Int → Option R) : Option R :=
  cond (decide (y10 < a9))
  (Option.bind (if 0 ≤ y10 ∧ y10 < a8 ∧ y10 < h1.length then some y10.toNat else none) fun i3 =>
  Option.bind (h1[i3]?) fun e4 =>
  Option.bind (some (cond (decide (e4 ≥ (65 : Int))) (decide (e4 ≤ (90 : Int))) false)) fun m5 =>
  Option.bind (cond m5 (if 0 ≤ y10 ∧ y10 < a3 ∧ y10 < h1.length then some y10.toNat else none) (some 0)) fun i6 =>
  Option.bind (cond m5 (if i6 < h1.length then some (h1.set i6 (IntKind.u8.wrap ((IntKind.u8.wrap (e4 + (97 : Int))) - (65 : Int)))) else none) (some h1)) fun a7 =>
  Option.bind (some (cond m5 a7 h1)) fun m8 =>
  k (IntKind.i64.wrap (y10 + (1 : Int))) m8)
  (kx0 h1)
def ZfM (n : Nat) (p0 : List UInt8) : Option (List UInt8) :=
  Zgp (ZdS n [] p0.length p0.length (p0.length : Int) (fun z1 =>
  Option.bind (if p0.length ≤ z1.length then some (Zoa (z1.take p0.length)) else none) fun s2 =>
  some s2)) n (0 : Int) (ZfY p0)
abbrev Znz : List (Nat × TCall X) := []
noncomputable abbrev Zb8 : Cx := ⟨C, U, Znz , [], fun _ => []⟩
theorem Zmv : okF (C.ann 41) Tryz.f41 1 = true := by kernel_rfl
abbrev short_small_L0_D : LD := ⟨0, [.val 2 9, .osl 3 0 5, .osl 8 0 5, .val 9 2], [.val 10 2, .harr false 5], [(0, [.harr false 5])], []⟩
abbrev ZcW (n : Nat) : LG U (PX X [9]) short_small_L0_D := fun c kx kr y k => ZdS n c.1 c.2.1 c.2.2.1 c.2.2.2.1 (fun z0 => kx 0 (z0, ())) y.1 y.2.1 (fun z0 z1 => k (z0, z1, ()))
noncomputable abbrev ZcV (n : Nat) : Ze9 (Zb8 ) (PX X [9]) := [(0, ZfA U short_small_L0_D (ZcW n) n)]
theorem Zkt (n : Nat) : ∀ c kx kr y k1, evL (Zb8 ) (ann 41) (ZcV n) 0 (Zat (Zac Tryz.f41) 0) (ZeN U short_small_L0_D kx kr k1) (encS U short_small_L0_D.cap short_small_L0_D.din c y) = ZcW n c (fun i z => kx i c z) kr y (fun y2 => k1 c y2) := by
  intro c kx kr y k1
  kernel_rfl
theorem ZnF (n : Nat) : ∀ a, fnL (Zb8 ) true 41 Tryz.f41 [.ty 9] [9] (ZcV n) a = ZfM n a := by
  intro a
  kernel_rfl
theorem ZhB {K : Zaa} : CallsOk (Zb8 ) (Zab C K) :=
  ⟨ZaB, ZaC⟩
theorem Zin {K : Zaa} (n : Nat) (b0 : Base) (bn0 : b0.nr ≤ 0) : Law (Zb8 ) b0 (Zab C K) (ann 41) n (Zat (Zac Tryz.f41) 0) (ZfA U short_small_L0_D (ZcW n) n) :=
  ZdA (x := Zb8 ) (id := 0) ok (ZhB ) (sums := ZcV n) (Zau (show Zaq 0 (Zat (Zac Tryz.f41) 0) = [] by kernel_rfl)) short_small_L0_D bn0 (ZcW n) (Zkt n)
theorem Zjk {K : Zaa} (hK : ∀ args h, K 41 args h = none) (t : PX X (AK.tys [.ty 9]) → Option (PX X [9])) (h : ∀ a r, t a = some r → ∃ n, ZfM n a = some r) : Zaj U (Zab C K) 41 ⟨true, [.ty 9], [9], t⟩ := by
  refine Zav (x := Zb8 ) (ak := [.ty 9]) (rts := [9]) (dir := true) ok (ZhB ) hK Tryz.func41 Zmv fun a r hr => ?_
  obtain ⟨n, hn⟩ := h a r hr
  exact ⟨n, ZcV n, (Zby (ids := [0]) (by kernel_rfl) (by decide) (fun i hi => by
    simp only [List.mem_cons, List.not_mem_nil, or_false] at hi
    rcases hi with rfl
    · exact Zbw (c2 := Zat (Zac Tryz.f41) 0) (by kernel_rfl) (by kernel_rfl) (Zin _ _ (Nat.le_refl _))
    )), (ZnF n a).trans hn⟩
end Go.Tev.S1
namespace Go.Tev.S1
open Go.Abs Go.Proofs
abbrev T2a : Type := (List UInt8) → Option (List UInt8)
abbrev T2b : Type := (List Val) → Option Bool
abbrev T2c : Type := (List Val) → Option Int
abbrev T2d : Type := Val → Option Bool
abbrev T2e : Type := (List Val) → Option (List Val)
abbrev T2f : Type := (List UInt8) → Option Bool
abbrev P2a (K : Zaa) (t : T2a) : Prop := Zaj U (Zab C K) 41 ⟨true, [.ty 9], [9], t⟩
abbrev P2b (K : Zaa) (t : T2b) : Prop := Zaj U (Zab C K) 14 ⟨true, [.ty 22], [4], t⟩
abbrev P2c (K : Zaa) (t : T2c) : Prop := Zaj U (Zab C K) 60 ⟨true, [.ty 22, .fn 40], [3], t⟩
abbrev P2d (K : Zaa) (t : T2d) : Prop := Zaj U (Zab C K) 40 ⟨true, [.ty 51], [4], t⟩
abbrev P2e (K : Zaa) (t : T2b) : Prop := Zaj U (Zab C K) 39 ⟨true, [.ty 22, .fn 40], [4], t⟩
abbrev P2h (K : Zaa) (t : T2c) : Prop := Zaj U (Zab C K) 44 ⟨true, [.ty 22], [3], t⟩
abbrev P2j (K : Zaa) (t : T2c) : Prop := Zaj U (Zab C K) 33 ⟨true, [.ty 22], [28], t⟩
abbrev P2k (K : Zaa) (t : T2e) : Prop := Zaj U (Zab C K) 67 ⟨true, [.ty 22], [22], t⟩
abbrev P2l (K : Zaa) (t : T2f) : Prop := Zaj U (Zab C K) 61 ⟨true, [.ty 9], [4], t⟩
abbrev P2m (K : Zaa) (t : T2e) : Prop := Zaj U (Zab C K) 68 ⟨true, [.ty 22], [22], t⟩
def ZfF (qa : T2a) (qb : T2b) (n : Nat) (p0 : Val) : Option Bool :=
  Option.bind (cond (p0.tok.k == (2 : Int)) (qa p0.tok.t) (some [])) fun r1 =>
  Option.bind (some (cond (p0.tok.k == (2 : Int)) (r1 == [118, 97, 114]) false)) fun m2 =>
  Option.bind (cond (!m2) (qb p0.l) (some false)) fun r3 =>
  Option.bind (some (cond m2 true r3)) fun m4 =>
  some m4
abbrev Zn2 (qa : T2a) (qb : T2b) : List (Nat × TCall X) := [(41, ⟨true, [.ty 9], [9], qa⟩), (14, ⟨true, [.ty 22], [4], qb⟩)]
noncomputable abbrev Zeh (qa : T2a) (qb : T2b) : Cx := ⟨C, U, Zn2 qa qb, [], fun _ => []⟩
theorem Zms : okF (C.ann 40) Tryz.f40 1 = true := by kernel_rfl
noncomputable abbrev Zgc (qa : T2a) (qb : T2b) (n : Nat) : Ze9 (Zeh qa qb) (PX X [4]) := []
theorem Znk (qa : T2a) (qb : T2b) (n : Nat) : ∀ a, fnL (Zeh qa qb) true 40 Tryz.f40 [.ty 51] [4] (Zgc qa qb n) a = ZfF qa qb n a := by
  intro a
  kernel_rfl
theorem Zmm {K : Zaa} (qa : T2a) (qb : T2b) (h0 : P2a K qa) (h1 : P2b K qb) : CallsOk (Zeh qa qb) (Zab C K) :=
  ⟨(Zag h0 (Zag h1 ZaB)), ZaC⟩
theorem ZjE {K : Zaa} (hK : ∀ args h, K 40 args h = none) (qa : T2a) (qb : T2b) (h0 : P2a K qa) (h1 : P2b K qb) (t : PX X (AK.tys [.ty 51]) → Option (PX X [4])) (h : ∀ a r, t a = some r → ∃ n, ZfF qa qb n a = some r) : Zaj U (Zab C K) 40 ⟨true, [.ty 51], [4], t⟩ := by
  refine Zav (x := Zeh qa qb) (ak := [.ty 51]) (rts := [4]) (dir := true) ok (Zmm qa qb h0 h1) hK Tryz.func40 Zms fun a r hr => ?_
  obtain ⟨n, hn⟩ := h a r hr
  exact ⟨n, Zgc qa qb n, (Zau (show Zaq 0 (Zac Tryz.f40) = [] by kernel_rfl)), (Znk qa qb n a).trans hn⟩
def Zax (qc : T2c) (n : Nat) (p0 : List Val) : Option Bool :=
  Option.bind (qc p0) fun r1 =>
  some (decide (r1 ≥ (0 : Int)))
abbrev Zbo (qc : T2c) : List (Nat × TCall X) := [(60, ⟨true, [.ty 22, .fn 40], [3], qc⟩)]
noncomputable abbrev Zan (qc : T2c) : Cx := ⟨C, U, Zbo qc, [], fun _ => []⟩
theorem Zbl : okF (C.ann 39) Tryz.f39 2 = true := by kernel_rfl
noncomputable abbrev ZaD (qc : T2c) (n : Nat) : Ze9 (Zan qc) (PX X [4]) := []
theorem Zbn (qc : T2c) (n : Nat) : ∀ a, fnL (Zan qc) true 39 Tryz.f39 [.ty 22, .fn 40] [4] (ZaD qc n) a = Zax qc n a := by
  intro a
  kernel_rfl
theorem Zbj {K : Zaa} (qc : T2c) (h0 : P2c K qc) : CallsOk (Zan qc) (Zab C K) :=
  ⟨(Zag h0 ZaB), ZaC⟩
theorem Zbc {K : Zaa} (hK : ∀ args h, K 39 args h = none) (qc : T2c) (h0 : P2c K qc) (t : PX X (AK.tys [.ty 22, .fn 40]) → Option (PX X [4])) (h : ∀ a r, t a = some r → ∃ n, Zax qc n a = some r) : Zaj U (Zab C K) 39 ⟨true, [.ty 22, .fn 40], [4], t⟩ := by
  refine Zav (x := Zan qc) (ak := [.ty 22, .fn 40]) (rts := [4]) (dir := true) ok (Zbj qc h0) hK Tryz.func39 Zbl fun a r hr => ?_
  obtain ⟨n, hn⟩ := h a r hr
  exact ⟨n, ZaD qc n, (Zau (show Zaq 0 (Zac Tryz.f39) = [] by kernel_rfl)), (Zbn qc n a).trans hn⟩
def Zap (qd : T2d) {R : Type} (n : Nat) (a0 : List Val) (_ : Unit) (a7 : Int) (kx0 : Int → Option R) (kr : Int → Option R) (y4 : Int) (y8 : Int) (k : Int → Int → Option R) : Option R :=
  cond (decide (y8 < a7))
  (Option.bind (ZeC a0 y8) fun x3 =>
  Option.bind (qd (Val.mk x3.tok x3.l)) fun r4 =>
  cond r4
  (kr y8)
  (k y4 (IntKind.i64.wrap (y8 + (1 : Int)))))
  (kx0 y4)
def Zas (qd : T2d) (n : Nat) (p0 : List Val) : Option Int :=
  Zgp (Zap qd n p0 () (p0.length : Int) (fun z1 =>
  some (-1 : Int)) (fun z2 =>
  some z2)) n (0 : Int) (0 : Int)
abbrev ZbC (qd : T2d) : List (Nat × TCall X) := [(40, ⟨true, [.ty 51], [4], qd⟩)]
noncomputable abbrev Zaf (qd : T2d) : Cx := ⟨C, U, ZbC qd, [], fun _ => []⟩
theorem Zbz : okF (C.ann 60) Tryz.f60 2 = true := by kernel_rfl
abbrev slices_IndexFuncapi_Value_api_Value_short_Var_1_L0_D : LD := ⟨0, [.val 0 22, .fn 1 40, .val 7 2], [.val 4 2, .val 8 2], [(0, [.val 4 2])], [.val 4 3]⟩
abbrev Zal (qd : T2d) (n : Nat) : LG U (PX X [3]) slices_IndexFuncapi_Value_api_Value_short_Var_1_L0_D := fun c kx kr y k => Zap qd n c.1 c.2.1 c.2.2.1 (fun z0 => kx 0 (z0, ())) (fun z0 => kr (z0, ())) y.1 y.2.1 (fun z0 z1 => k (z0, z1, ()))
noncomputable abbrev Zam (qd : T2d) (n : Nat) : Ze9 (Zaf qd) (PX X [3]) := [(0, ZfA U slices_IndexFuncapi_Value_api_Value_short_Var_1_L0_D (Zal qd n) n)]
theorem Zbp (qd : T2d) (n : Nat) : ∀ c kx kr y k1, evL (Zaf qd) (ann 60) (Zam qd n) 0 (Zat (Zac Tryz.f60) 0) (ZeN U slices_IndexFuncapi_Value_api_Value_short_Var_1_L0_D kx kr k1) (encS U slices_IndexFuncapi_Value_api_Value_short_Var_1_L0_D.cap slices_IndexFuncapi_Value_api_Value_short_Var_1_L0_D.din c y) = Zal qd n c (fun i z => kx i c z) kr y (fun y2 => k1 c y2) := by
  intro c kx kr y k1
  kernel_rfl
theorem ZbE (qd : T2d) (n : Nat) : ∀ a, fnL (Zaf qd) true 60 Tryz.f60 [.ty 22, .fn 40] [3] (Zam qd n) a = Zas qd n a := by
  intro a
  kernel_rfl
theorem ZaL {K : Zaa} (qd : T2d) (h0 : P2d K qd) : CallsOk (Zaf qd) (Zab C K) :=
  ⟨(Zag h0 ZaB), ZaC⟩
theorem Zbe {K : Zaa} (qd : T2d) (h0 : P2d K qd) (n : Nat) (b0 : Base) (bn0 : b0.nr ≤ 0) : Law (Zaf qd) b0 (Zab C K) (ann 60) n (Zat (Zac Tryz.f60) 0) (ZfA U slices_IndexFuncapi_Value_api_Value_short_Var_1_L0_D (Zal qd n) n) :=
  ZdA (x := Zaf qd) (id := 0) ok (ZaL qd h0) (sums := Zam qd n) (Zau (show Zaq 0 (Zat (Zac Tryz.f60) 0) = [] by kernel_rfl)) slices_IndexFuncapi_Value_api_Value_short_Var_1_L0_D bn0 (Zal qd n) (Zbp qd n)
theorem Zbm {K : Zaa} (hK : ∀ args h, K 60 args h = none) (qd : T2d) (h0 : P2d K qd) (t : PX X (AK.tys [.ty 22, .fn 40]) → Option (PX X [3])) (h : ∀ a r, t a = some r → ∃ n, Zas qd n a = some r) : Zaj U (Zab C K) 60 ⟨true, [.ty 22, .fn 40], [3], t⟩ := by
  refine Zav (x := Zaf qd) (ak := [.ty 22, .fn 40]) (rts := [3]) (dir := true) ok (ZaL qd h0) hK Tryz.func60 Zbz fun a r hr => ?_
  obtain ⟨n, hn⟩ := h a r hr
  exact ⟨n, Zam qd n, (Zby (ids := [0]) (by kernel_rfl) (by decide) (fun i hi => by
    simp only [List.mem_cons, List.not_mem_nil, or_false] at hi
    rcases hi with rfl
    · exact Zbw (c2 := Zat (Zac Tryz.f60) 0) (by kernel_rfl) (by kernel_rfl) (Zbe qd h0 _ _ (Nat.le_refl _))
    )), (ZbE qd n a).trans hn⟩
def Zle (qe : T2b) (n : Nat) (p0 : List Val) : Option Bool :=
  Option.bind (qe p0) fun r1 =>
  some r1
abbrev ZrV (qe : T2b) : List (Nat × TCall X) := [(39, ⟨true, [.ty 22, .fn 40], [4], qe⟩)]
noncomputable abbrev Zf2 (qe : T2b) : Cx := ⟨C, U, ZrV qe, [], fun _ => []⟩
theorem ZpF : okF (C.ann 14) Tryz.f14 1 = true := by kernel_rfl
noncomputable abbrev Zhy (qe : T2b) (n : Nat) : Ze9 (Zf2 qe) (PX X [4]) := []
theorem Zr5 (qe : T2b) (n : Nat) : ∀ a, fnL (Zf2 qe) true 14 Tryz.f14 [.ty 22] [4] (Zhy qe n) a = Zle qe n a := by
  intro a
  kernel_rfl
theorem ZpJ {K : Zaa} (qe : T2b) (h0 : P2e K qe) : CallsOk (Zf2 qe) (Zab C K) :=
  ⟨(Zag h0 ZaB), ZaC⟩
theorem ZlP {K : Zaa} (hK : ∀ args h, K 14 args h = none) (qe : T2b) (h0 : P2e K qe) (t : PX X (AK.tys [.ty 22]) → Option (PX X [4])) (h : ∀ a r, t a = some r → ∃ n, Zle qe n a = some r) : Zaj U (Zab C K) 14 ⟨true, [.ty 22], [4], t⟩ := by
  refine Zav (x := Zf2 qe) (ak := [.ty 22]) (rts := [4]) (dir := true) ok (ZpJ qe h0) hK Tryz.func14 ZpF fun a r hr => ?_
  obtain ⟨n, hn⟩ := h a r hr
  exact ⟨n, Zhy qe n, (Zau (show Zaq 0 (Zac Tryz.f14) = [] by kernel_rfl)), (Zr5 qe n a).trans hn⟩
def ZdQ (qh : T2c) {R : Type} (n : Nat) (a2 : Int) (a6 : List Val) (a7 : Int) (kx0 : Int → Option R) (y3 : Int) (y8 : Int) (k : Int → Int → Option R) : Option R :=
  cond (decide (y8 < a7))
  (Option.bind (ZeC a6 y8) fun x2 =>
  Option.bind (qh x2.l) fun r3 =>
  k (IntKind.i64.wrap (y3 + (IntKind.i64.wrap ((IntKind.i64.wrap ((IntKind.i64.wrap ((1 : Int) + (x2.tok.t.length : Int))) + (x2.tok.u.length : Int))) + r3)))) (IntKind.i64.wrap (y8 + (1 : Int))))
  (kx0 y3)
def ZfH (qh : T2c) (n : Nat) (p0 : List Val) : Option Int :=
  Zgp (ZdQ qh n (0 : Int) p0 (p0.length : Int) (fun z1 =>
  some z1)) n (0 : Int) (0 : Int)
abbrev ZoW (qh : T2c) : List (Nat × TCall X) := [(44, ⟨true, [.ty 22], [3], qh⟩)]
noncomputable abbrev Zb4 (qh : T2c) : Cx := ⟨C, U, ZoW qh, [], fun _ => []⟩
theorem Zmz : okF (C.ann 44) Tryz.f44 1 = true := by kernel_rfl
abbrev vars_length_L0_D : LD := ⟨0, [.val 2 2, .val 6 22, .val 7 2], [.val 3 2, .val 8 2], [(0, [.val 3 2])], []⟩
abbrev ZcS (qh : T2c) (n : Nat) : LG U (PX X [3]) vars_length_L0_D := fun c kx kr y k => ZdQ qh n c.1 c.2.1 c.2.2.1 (fun z0 => kx 0 (z0, ())) y.1 y.2.1 (fun z0 z1 => k (z0, z1, ()))
noncomputable abbrev ZcT (qh : T2c) (n : Nat) : Ze9 (Zb4 qh) (PX X [3]) := [(0, ZfA U vars_length_L0_D (ZcS qh n) n)]
theorem Zkm (qh : T2c) (n : Nat) : ∀ c kx kr y k1, evL (Zb4 qh) (ann 44) (ZcT qh n) 0 (Zat (Zac Tryz.f44) 0) (ZeN U vars_length_L0_D kx kr k1) (encS U vars_length_L0_D.cap vars_length_L0_D.din c y) = ZcS qh n c (fun i z => kx i c z) kr y (fun y2 => k1 c y2) := by
  intro c kx kr y k1
  kernel_rfl
theorem ZoI (qh : T2c) (n : Nat) : ∀ a, fnL (Zb4 qh) true 44 Tryz.f44 [.ty 22] [3] (ZcT qh n) a = ZfH qh n a := by
  intro a
  kernel_rfl
theorem Zhx {K : Zaa} (qh : T2c) (h0 : P2h K qh) : CallsOk (Zb4 qh) (Zab C K) :=
  ⟨(Zag h0 ZaB), ZaC⟩
theorem ZiA {K : Zaa} (qh : T2c) (h0 : P2h K qh) (n : Nat) (b0 : Base) (bn0 : b0.nr ≤ 0) : Law (Zb4 qh) b0 (Zab C K) (ann 44) n (Zat (Zac Tryz.f44) 0) (ZfA U vars_length_L0_D (ZcS qh n) n) :=
  ZdA (x := Zb4 qh) (id := 0) ok (Zhx qh h0) (sums := ZcT qh n) (Zau (show Zaq 0 (Zat (Zac Tryz.f44) 0) = [] by kernel_rfl)) vars_length_L0_D bn0 (ZcS qh n) (Zkm qh n)
theorem Zjr {K : Zaa} (hK : ∀ args h, K 44 args h = none) (qh : T2c) (h0 : P2h K qh) (t : PX X (AK.tys [.ty 22]) → Option (PX X [3])) (h : ∀ a r, t a = some r → ∃ n, ZfH qh n a = some r) : Zaj U (Zab C K) 44 ⟨true, [.ty 22], [3], t⟩ := by
  refine Zav (x := Zb4 qh) (ak := [.ty 22]) (rts := [3]) (dir := true) ok (Zhx qh h0) hK Tryz.func44 Zmz fun a r hr => ?_
  obtain ⟨n, hn⟩ := h a r hr
  exact ⟨n, ZcT qh n, (Zby (ids := [0]) (by kernel_rfl) (by decide) (fun i hi => by
    simp only [List.mem_cons, List.not_mem_nil, or_false] at hi
    rcases hi with rfl
    · exact Zbw (c2 := Zat (Zac Tryz.f44) 0) (by kernel_rfl) (by kernel_rfl) (ZiA qh h0 _ _ (Nat.le_refl _))
    )), (ZoI qh n a).trans hn⟩
def Zf1 (qj : T2c) (qh : T2c) (n : Nat) (p0 : List Val) : Option (Int × Int) :=
  Option.bind (qj p0) fun r1 =>
  cond (r1 != (0 : Int))
  (some ((0 : Int), r1))
  (Option.bind (qh p0) fun r2 =>
  some (r2, (0 : Int)))
abbrev ZnG (qj : T2c) (qh : T2c) : List (Nat × TCall X) := [(33, ⟨true, [.ty 22], [28], qj⟩), (44, ⟨true, [.ty 22], [3], qh⟩)]
noncomputable abbrev Zej (qj : T2c) (qh : T2c) : Cx := ⟨C, U, ZnG qj qh, [], fun _ => []⟩
theorem Zmi : okF (C.ann 24) Tryz.f24 1 = true := by kernel_rfl
noncomputable abbrev Zge (qj : T2c) (qh : T2c) (n : Nat) : Ze9 (Zej qj qh) (PX X [3, 28]) := []
theorem Zob (qj : T2c) (qh : T2c) (n : Nat) : ∀ a, fnL (Zej qj qh) true 24 Tryz.f24 [.ty 22] [3, 28] (Zge qj qh n) a = Zf1 qj qh n a := by
  intro a
  kernel_rfl
theorem Zl9 {K : Zaa} (qj : T2c) (qh : T2c) (h0 : P2j K qj) (h1 : P2h K qh) : CallsOk (Zej qj qh) (Zab C K) :=
  ⟨(Zag h0 (Zag h1 ZaB)), ZaC⟩
theorem ZjM {K : Zaa} (hK : ∀ args h, K 24 args h = none) (qj : T2c) (qh : T2c) (h0 : P2j K qj) (h1 : P2h K qh) (t : PX X (AK.tys [.ty 22]) → Option (PX X [3, 28])) (h : ∀ a r, t a = some r → ∃ n, Zf1 qj qh n a = some r) : Zaj U (Zab C K) 24 ⟨true, [.ty 22], [3, 28], t⟩ := by
  refine Zav (x := Zej qj qh) (ak := [.ty 22]) (rts := [3, 28]) (dir := true) ok (Zl9 qj qh h0 h1) hK Tryz.func24 Zmi fun a r hr => ?_
  obtain ⟨n, hn⟩ := h a r hr
  exact ⟨n, Zge qj qh n, (Zau (show Zaq 0 (Zac Tryz.f24) = [] by kernel_rfl)), (Zob qj qh n a).trans hn⟩
def ZgZ (n : Nat) (p0 : Val) : Option Bool :=
  Option.bind (some (cond (p0.tok.k == (2 : Int)) ((p0.tok.t.length : Int) == (3 : Int)) false)) fun m1 =>
  Option.bind (cond m1 (ZeC p0.tok.t (0 : Int)) (some 0)) fun b2 =>
  Option.bind (some (cond m1 ((IntKind.u8.wrap (BitVec.ofInt (IntKind.u8).bits (b2.toNat : Int) ||| BitVec.ofInt (IntKind.u8).bits (32 : Int)).toNat) == (118 : Int)) false)) fun m3 =>
  Option.bind (cond m3 (ZeC p0.tok.t (1 : Int)) (some 0)) fun b4 =>
  Option.bind (some (cond m3 ((IntKind.u8.wrap (BitVec.ofInt (IntKind.u8).bits (b4.toNat : Int) ||| BitVec.ofInt (IntKind.u8).bits (32 : Int)).toNat) == (97 : Int)) false)) fun m5 =>
  Option.bind (cond m5 (ZeC p0.tok.t (2 : Int)) (some 0)) fun b6 =>
  Option.bind (some (cond m5 ((IntKind.u8.wrap (BitVec.ofInt (IntKind.u8).bits (b6.toNat : Int) ||| BitVec.ofInt (IntKind.u8).bits (32 : Int)).toNat) == (114 : Int)) false)) fun m7 =>
  some m7
abbrev Zqv : List (Nat × TCall X) := []
noncomputable abbrev ZeR : Cx := ⟨C, U, Zqv , [], fun _ => []⟩
theorem ZnY : okF (C.ann 55) Tryz.f55 1 = true := by kernel_rfl
noncomputable abbrev ZgH (n : Nat) : Ze9 (ZeR ) (PX X [4]) := []
theorem Zqc (n : Nat) : ∀ a, fnL (ZeR ) true 55 Tryz.f55 [.ty 51] [4] (ZgH n) a = ZgZ n a := by
  intro a
  kernel_rfl
theorem ZoU {K : Zaa} : CallsOk (ZeR ) (Zab C K) :=
  ⟨ZaB, ZaC⟩
theorem Zkh {K : Zaa} (hK : ∀ args h, K 55 args h = none) (t : PX X (AK.tys [.ty 51]) → Option (PX X [4])) (h : ∀ a r, t a = some r → ∃ n, ZgZ n a = some r) : Zaj U (Zab C K) 55 ⟨true, [.ty 51], [4], t⟩ := by
  refine Zav (x := ZeR ) (ak := [.ty 51]) (rts := [4]) (dir := true) ok (ZoU ) hK Tryz.func55 ZnY fun a r hr => ?_
  obtain ⟨n, hn⟩ := h a r hr
  exact ⟨n, ZgH n, (Zau (show Zaq 0 (Zac Tryz.f55) = [] by kernel_rfl)), (Zqc n a).trans hn⟩
def Zfb {R : Type} (n : Nat) (a2 : List Val) (kx0 : List Val → Option R) (y0 : List Val) (k : List Val → Option R) : Option R :=
  Option.bind (cond (decide ((y0.length : Int) > (0 : Int))) (ZeC y0 (0 : Int)) (some Ybg)) fun x2 =>
  Option.bind (some (cond (decide ((y0.length : Int) > (0 : Int))) (x2.tok.k == (13 : Int)) false)) fun m3 =>
  cond m3
  (Option.bind (Zs2 y0 (1 : Int) (y0.length : Int)) fun s4 =>
  k s4)
  (kx0 y0)
def ZfW (n : Nat) (p0 : List Val) : Option (List Val) :=
  ZtX (Zfb n [] (fun z1 =>
  some z1)) n p0
abbrev Zn5 : List (Nat × TCall X) := []
noncomputable abbrev Zb7 : Cx := ⟨C, U, Zn5 , [], fun _ => []⟩
theorem ZmA : okF (C.ann 67) Tryz.f67 1 = true := by kernel_rfl
abbrev vars_spaces_L0_D : LD := ⟨0, [.val 2 22], [.val 0 22], [(0, [.val 0 22])], []⟩
abbrev ZcL (n : Nat) : LG U (PX X [22]) vars_spaces_L0_D := fun c kx kr y k => Zfb n c.1 (fun z0 => kx 0 (z0, ())) y.1 (fun z0 => k (z0, ()))
noncomputable abbrev ZcJ (n : Nat) : Ze9 (Zb7 ) (PX X [22]) := [(0, ZfA U vars_spaces_L0_D (ZcL n) n)]
theorem Zke (n : Nat) : ∀ c kx kr y k1, evL (Zb7 ) (ann 67) (ZcJ n) 0 (Zat (Zac Tryz.f67) 0) (ZeN U vars_spaces_L0_D kx kr k1) (encS U vars_spaces_L0_D.cap vars_spaces_L0_D.din c y) = ZcL n c (fun i z => kx i c z) kr y (fun y2 => k1 c y2) := by
  intro c kx kr y k1
  kernel_rfl
theorem ZnS (n : Nat) : ∀ a, fnL (Zb7 ) true 67 Tryz.f67 [.ty 22] [22] (ZcJ n) a = ZfW n a := by
  intro a
  kernel_rfl
theorem Zhw {K : Zaa} : CallsOk (Zb7 ) (Zab C K) :=
  ⟨ZaB, ZaC⟩
theorem Zis {K : Zaa} (n : Nat) (b0 : Base) (bn0 : b0.nr ≤ 0) : Law (Zb7 ) b0 (Zab C K) (ann 67) n (Zat (Zac Tryz.f67) 0) (ZfA U vars_spaces_L0_D (ZcL n) n) :=
  ZdA (x := Zb7 ) (id := 0) ok (Zhw ) (sums := ZcJ n) (Zau (show Zaq 0 (Zat (Zac Tryz.f67) 0) = [] by kernel_rfl)) vars_spaces_L0_D bn0 (ZcL n) (Zke n)
theorem Zjx {K : Zaa} (hK : ∀ args h, K 67 args h = none) (t : PX X (AK.tys [.ty 22]) → Option (PX X [22])) (h : ∀ a r, t a = some r → ∃ n, ZfW n a = some r) : Zaj U (Zab C K) 67 ⟨true, [.ty 22], [22], t⟩ := by
  refine Zav (x := Zb7 ) (ak := [.ty 22]) (rts := [22]) (dir := true) ok (Zhw ) hK Tryz.func67 ZmA fun a r hr => ?_
  obtain ⟨n, hn⟩ := h a r hr
  exact ⟨n, ZcJ n, (Zby (ids := [0]) (by kernel_rfl) (by decide) (fun i hi => by
    simp only [List.mem_cons, List.not_mem_nil, or_false] at hi
    rcases hi with rfl
    · exact Zbw (c2 := Zat (Zac Tryz.f67) 0) (by kernel_rfl) (by kernel_rfl) (Zis _ _ (Nat.le_refl _))
    )), (ZnS n a).trans hn⟩
def Zgr (qk : T2e) {R : Type} (n : Nat) (a2 : List Val) (kx0 : List Val → Option R) (y0 : List Val) (k : List Val → Option R) : Option R :=
  Option.bind (cond (decide ((y0.length : Int) > (0 : Int))) (ZeC y0 (IntKind.i64.wrap ((y0.length : Int) - (1 : Int)))) (some Ybg)) fun x3 =>
  Option.bind (some (cond (decide ((y0.length : Int) > (0 : Int))) (x3.tok.k == (13 : Int)) false)) fun m4 =>
  cond m4
  (Option.bind (Zs2 y0 (0 : Int) (IntKind.i64.wrap ((y0.length : Int) - (1 : Int)))) fun s5 =>
  k s5)
  (kx0 y0)
def ZiV (qk : T2e) (n : Nat) (p0 : List Val) : Option (List Val) :=
  Option.bind (qk p0) fun r1 =>
  ZtX (Zgr qk n [] (fun z2 =>
  some z2)) n r1
abbrev Zsc (qk : T2e) : List (Nat × TCall X) := [(67, ⟨true, [.ty 22], [22], qk⟩)]
noncomputable abbrev ZcY (qk : T2e) : Cx := ⟨C, U, Zsc qk, [], fun _ => []⟩
theorem ZqL : okF (C.ann 68) Tryz.f68 1 = true := by kernel_rfl
abbrev vars_trim_L0_D : LD := ⟨0, [.val 2 22], [.val 0 22], [(0, [.val 0 22])], []⟩
abbrev ZdX (qk : T2e) (n : Nat) : LG U (PX X [22]) vars_trim_L0_D := fun c kx kr y k => Zgr qk n c.1 (fun z0 => kx 0 (z0, ())) y.1 (fun z0 => k (z0, ()))
noncomputable abbrev ZdV (qk : T2e) (n : Nat) : Ze9 (ZcY qk) (PX X [22]) := [(0, ZfA U vars_trim_L0_D (ZdX qk n) n)]
theorem Zmo (qk : T2e) (n : Nat) : ∀ c kx kr y k1, evL (ZcY qk) (ann 68) (ZdV qk n) 0 (Zat (Zac Tryz.f68) 0) (ZeN U vars_trim_L0_D kx kr k1) (encS U vars_trim_L0_D.cap vars_trim_L0_D.din c y) = ZdX qk n c (fun i z => kx i c z) kr y (fun y2 => k1 c y2) := by
  intro c kx kr y k1
  kernel_rfl
theorem Zrk (qk : T2e) (n : Nat) : ∀ a, fnL (ZcY qk) true 68 Tryz.f68 [.ty 22] [22] (ZdV qk n) a = ZiV qk n a := by
  intro a
  kernel_rfl
theorem Zj2 {K : Zaa} (qk : T2e) (h0 : P2k K qk) : CallsOk (ZcY qk) (Zab C K) :=
  ⟨(Zag h0 ZaB), ZaC⟩
theorem Zkq {K : Zaa} (qk : T2e) (h0 : P2k K qk) (n : Nat) (b0 : Base) (bn0 : b0.nr ≤ 0) : Law (ZcY qk) b0 (Zab C K) (ann 68) n (Zat (Zac Tryz.f68) 0) (ZfA U vars_trim_L0_D (ZdX qk n) n) :=
  ZdA (x := ZcY qk) (id := 0) ok (Zj2 qk h0) (sums := ZdV qk n) (Zau (show Zaq 0 (Zat (Zac Tryz.f68) 0) = [] by kernel_rfl)) vars_trim_L0_D bn0 (ZdX qk n) (Zmo qk n)
theorem ZlL {K : Zaa} (hK : ∀ args h, K 68 args h = none) (qk : T2e) (h0 : P2k K qk) (t : PX X (AK.tys [.ty 22]) → Option (PX X [22])) (h : ∀ a r, t a = some r → ∃ n, ZiV qk n a = some r) : Zaj U (Zab C K) 68 ⟨true, [.ty 22], [22], t⟩ := by
  refine Zav (x := ZcY qk) (ak := [.ty 22]) (rts := [22]) (dir := true) ok (Zj2 qk h0) hK Tryz.func68 ZqL fun a r hr => ?_
  obtain ⟨n, hn⟩ := h a r hr
  exact ⟨n, ZdV qk n, (Zby (ids := [0]) (by kernel_rfl) (by decide) (fun i hi => by
    simp only [List.mem_cons, List.not_mem_nil, or_false] at hi
    rcases hi with rfl
    · exact Zbw (c2 := Zat (Zac Tryz.f68) 0) (by kernel_rfl) (by kernel_rfl) (Zkq qk h0 _ _ (Nat.le_refl _))
    )), (Zrk qk n a).trans hn⟩
def ZgW (qk : T2e) (ql : T2f) (qm : T2e) (n : Nat) (p0 : Val) : Option ((List UInt8) × (List Val) × Bool) :=
  Option.bind (qk p0.l) fun r1 =>
  Option.bind (cond (!((r1.length : Int) == (0 : Int))) (ZeC r1 (0 : Int)) (some Ybg)) fun x2 =>
  Option.bind (some (cond ((r1.length : Int) == (0 : Int)) true (x2.tok.k != (1 : Int)))) fun m3 =>
  Option.bind (cond (!m3) (ZeC r1 (0 : Int)) (some Ybg)) fun x4 =>
  Option.bind (cond (!m3) (ql x4.tok.t) (some false)) fun r5 =>
  Option.bind (some (cond m3 true (!r5))) fun m6 =>
  cond m6
  (some ([], [], false))
  (Option.bind (ZeC r1 (0 : Int)) fun x7 =>
  Option.bind (Zs2 r1 (1 : Int) (r1.length : Int)) fun s8 =>
  Option.bind (qk s8) fun r9 =>
  cond ((r9.length : Int) == (0 : Int))
  (some (x7.tok.t, [], false))
  (Option.bind (ZeC r9 (0 : Int)) fun x10 =>
  cond (x10.tok.k == (18 : Int))
  (Option.bind (Zs2 r9 (1 : Int) (r9.length : Int)) fun s11 =>
  Option.bind (qm s11) fun r12 =>
  some (x7.tok.t, r12, true))
  (some ([], [], false))))
abbrev ZpC (qk : T2e) (ql : T2f) (qm : T2e) : List (Nat × TCall X) := [(67, ⟨true, [.ty 22], [22], qk⟩), (61, ⟨true, [.ty 9], [4], ql⟩), (68, ⟨true, [.ty 22], [22], qm⟩)]
noncomputable abbrev Ze2 (qk : T2e) (ql : T2f) (qm : T2e) : Cx := ⟨C, U, ZpC qk ql qm, [], fun _ => []⟩
theorem ZnZ : okF (C.ann 56) Tryz.f56 1 = true := by kernel_rfl
noncomputable abbrev ZgN (qk : T2e) (ql : T2f) (qm : T2e) (n : Nat) : Ze9 (Ze2 qk ql qm) (PX X [9, 22, 4]) := []
theorem ZpH (qk : T2e) (ql : T2f) (qm : T2e) (n : Nat) : ∀ a, fnL (Ze2 qk ql qm) true 56 Tryz.f56 [.ty 51] [9, 22, 4] (ZgN qk ql qm n) a = ZgW qk ql qm n a := by
  intro a
  kernel_rfl
theorem Znq {K : Zaa} (qk : T2e) (ql : T2f) (qm : T2e) (h0 : P2k K qk) (h1 : P2l K ql) (h2 : P2m K qm) : CallsOk (Ze2 qk ql qm) (Zab C K) :=
  ⟨(Zag h0 (Zag h1 (Zag h2 ZaB))), ZaC⟩
theorem Zki {K : Zaa} (hK : ∀ args h, K 56 args h = none) (qk : T2e) (ql : T2f) (qm : T2e) (h0 : P2k K qk) (h1 : P2l K ql) (h2 : P2m K qm) (t : PX X (AK.tys [.ty 51]) → Option (PX X [9, 22, 4])) (h : ∀ a r, t a = some r → ∃ n, ZgW qk ql qm n a = some r) : Zaj U (Zab C K) 56 ⟨true, [.ty 51], [9, 22, 4], t⟩ := by
  refine Zav (x := Ze2 qk ql qm) (ak := [.ty 51]) (rts := [9, 22, 4]) (dir := true) ok (Znq qk ql qm h0 h1 h2) hK Tryz.func56 ZnZ fun a r hr => ?_
  obtain ⟨n, hn⟩ := h a r hr
  exact ⟨n, ZgN qk ql qm n, (Zau (show Zaq 0 (Zac Tryz.f56) = [] by kernel_rfl)), (ZpH qk ql qm n a).trans hn⟩
end Go.Tev.S1
namespace Go.Tev.S1
open Go.Abs Go.Proofs
def Zmp (l : List Val) : Option Int := if Zak l ≤ B then some (Zak l : Int) else none
theorem ZuX {l : List Val} {r : Int} (h : Zmp l = some r) : Zak l ≤ B ∧ r = Zak l := by
  unfold Zmp at h
  split at h
  · rename_i h1; exact ⟨h1, (Option.some.inj h).symm⟩
  · cases h
theorem ZiC {l : List Val} (h : Zak l ≤ B) : Zmp l = some (Zak l : Int) := if_pos h
end Go.Tev.S1
namespace Go.Tev.S1
open Go.Abs Go.Proofs
theorem Zr9 (k : Int) : Zf6 0 k = some (Za5 k) := by
  unfold Zf6 Za5
  by_cases h1 : k = 2
  · simp [h1]
  · by_cases h2 : k = 21
    · rw [h2]; rfl
    · by_cases h3 : k = 19
      · rw [h3]; rfl
      · by_cases h4 : k = 23
        · rw [h4]; rfl
        · have e1 : (k == 2) = false := by simpa using h1
          have e2 : (k == 21) = false := by simpa using h2
          have e3 : (k == 19) = false := by simpa using h3
          have e4 : (k == 23) = false := by simpa using h4
          simp [h1, h2, h3, h4, e1, e2, e3, e4]
theorem ZrY (k : Int) : ZeP 0 k = some (Za5 k) := by
  unfold ZeP Za5
  by_cases h1 : k = 2
  · rw [h1]; rfl
  · by_cases h2 : k = 21
    · rw [h2]; rfl
    · by_cases h3 : k = 19
      · rw [h3]; rfl
      · by_cases h4 : k = 23
        · rw [h4]; rfl
        · have e1 : (k == 2) = false := by simpa using h1
          have e2 : (k == 21) = false := by simpa using h2
          have e3 : (k == 19) = false := by simpa using h3
          have e4 : (k == 23) = false := by simpa using h4
          simp [h1, h2, h3, h4, e1, e2, e3, e4]
theorem ZzX {K : Zaa} (hK : ∀ args h, K 66 args h = none) : Zaj U (Zab C K) 66 ⟨true, [.ty 5], [5], fun k => some (Za5 k)⟩ :=
  Zi9 hK _ fun a r h => by cases h; exact ⟨0, Zr9 a⟩
theorem Zyr {K : Zaa} (hK : ∀ args h, K 47 args h = none) : Zaj U (Zab C K) 47 ⟨true, [.ty 5], [5], fun k => some (Za5 k)⟩ :=
  ZiK hK _ fun a r h => by cases h; exact ⟨0, ZrY a⟩
def ZrG (a : List Val × Int) : Option Fnd := if Zak a.1 ≤ B then some (ZpO a.2 a.1) else none
theorem Znr {l : List Val} {cl : Int} (h : Zak l ≤ B) : ZrG (l, cl) = some (ZpO cl l) := if_pos h
theorem Zww (cl : Int) (l : List Val) (k : Nat) (h1 : Zak l < k + 1) (h2 : Zak l ≤ B) : ZiT (fun k => some (Za5 k)) (below (fun a : List Val × Int => Zak a.1) k ZrG) (l.length + 1) l cl = some (ZpO cl l) := by
  have hB : B = 2 ^ 36 := rfl
  unfold ZiT
  refine (Zg9 l (fun (b : List Val) => ((0 : Int), (0 : Int), false)) (fun b => ((Zfz b : Int), (Zlw b : Int), Zra cl b)) (fun b v => .inl (b ++ [v])) (fun b => some (ZpO cl b)) (fun i b => b = l.take i) ?_ ?_ ?_ [] rfl _ (Nat.lt_succ_self _)).trans ?_
  · intro i b v k' hv hlt hb
    subst hb
    have hmem := List.mem_of_getElem? hv
    have hs := ZeH hmem
    have hle := Zet l i
    have ht := ZtV hv
    have hle2 := Zet l (i + 1)
    have hl := Zex l
    have hd := ZgT (l.take i)
    have hn := Zkz (l.take i)
    have hd' := ZgT v.l
    have hn' := Zkz v.l
    simp (disch := omega) only [Ze5, Zbx hv, Option.bind_some, dlt hlt, cond_true, Bool.cond_self, ZdW, Znr, Zdh]
    have hi : (i : Int) + 1 = ((i + 1 : Nat) : Int) := rfl
    rw [hi]
    simp only [Zli, Zsi, ZrT, Zfz, Zlw, Zra, Val.dep_eq v, Val.ntk_eq v, Val.bad_eq cl v, ZpO]
    have hp : decide ((v.l.length : Int) > 0) = decide (0 < v.l.length) := by simp
    rw [hp]
    by_cases hc : Za5 v.tok.k = 0
    · simp only [hc, beq_self_eq_true, cond_true, if_true]
      have hx : (((max (Zfz (l.take i)) (max 0 0) : Nat)) : Int) = (Zfz (l.take i) : Int) := by omega
      have hy : (((Zlw (l.take i) + (1 + 0) : Nat)) : Int) = (Zlw (l.take i) : Int) + 1 := by omega
      rw [hx, hy]
      cases e1 : (cl != 0) <;> cases e2 : (v.tok.k == cl) <;> cases e3 : decide (0 < v.l.length) <;> cases e4 : Zra cl (l.take i) <;> rfl
    · have hc' : (Za5 v.tok.k == 0) = false := by simpa using hc
      have hc2 : (Za5 v.tok.k != 0) = true := by simpa using hc
      have hbel : below (fun a : List Val × Int => Zak a.1) k ZrG (v.l, Za5 v.tok.k) = some (ZpO (Za5 v.tok.k) v.l) := (ZdW (sz := fun a : List Val × Int => Zak a.1) (show Zak v.l < k by omega)).trans (Znr (by omega))
      simp (disch := omega) only [hc', hc2, cond_false, if_neg hc, hbel, Option.bind_some, ZpO, Zdh]
      have hx : (if (Zfz v.l : Int) + 1 > (Zfz (l.take i) : Int) then (Zfz v.l : Int) + 1 else (Zfz (l.take i) : Int)) = (((max (Zfz (l.take i)) (max (1 + Zfz v.l) 0) : Nat)) : Int) := by split <;> omega
      have hy : (Zlw (l.take i) : Int) + 1 + (Zlw v.l : Int) + 1 = (((Zlw (l.take i) + (2 + Zlw v.l + 0) : Nat)) : Int) := by omega
      rw [hx, hy]
      cases e1 : (cl != 0) <;> cases e2 : (v.tok.k == cl) <;> cases e3 : decide (0 < v.l.length) <;> cases e4 : Zra cl (l.take i) <;> cases e5 : Zra (Za5 v.tok.k) v.l <;> rfl
  · intro i b v b' hv hb hs
    cases hs
    rw [ZbG hv, hb]
  · intro b k' hb
    simp only [Ze5, ZqY, cond_false]; rfl
  · rw [Zd0 (fun (b : List Val) (v : Val) => b ++ [v]), Zfk]
theorem YdL {K : Zaa} (hK : ∀ args h, K 52 args h = none) (h67 : ∀ args h, K 66 args h = none) : Zaj U (Zab C K) 52 ⟨true, [.ty 22, .ty 5], [84], ZrG⟩ :=
  ZdY (U := U) (ak := [.ty 22, .ty 5]) (rts := [84]) (fun a : List Val × Int => Zak a.1) ZrG fun k ih => ZlE hK _ _ (ZzX h67) ih _ fun a r h => by
    obtain ⟨h1, h2⟩ := Zc5 h
    unfold ZrG at h2
    split at h2
    · rename_i h3
      cases h2
      exact ⟨_, Zww a.2 a.1 k h1 h3⟩
    · cases h2
def ZaN (l : List Val) : Int := if Zfz l > 16 then 20 else if Zlw l > 1500 then 4 else if Zra 0 l then 8 else 0
def ZjV (l : List Val) : Option Int := if Zak l ≤ B then some (ZaN l) else none
theorem Zfx {l : List Val} (h : Zak l ≤ B) : ZjV l = some (ZaN l) := if_pos h
theorem Zuf (l : List Val) (h : Zak l ≤ B) : Zha ZrG 0 l = some (ZaN l) := by
  unfold Zha ZaN
  rw [Znr h]
  simp only [Option.bind_some, ZpO]
  by_cases h1 : Zfz l > 16
  · have : decide ((Zfz l : Int) > 16) = true := by simp; omega
    rw [this, if_pos h1]; rfl
  · have : decide ((Zfz l : Int) > 16) = false := by simp; omega
    rw [this, if_neg h1]
    by_cases h2 : Zlw l > 1500
    · have : decide ((Zlw l : Int) > 1500) = true := by simp; omega
      rw [this, if_pos h2]; rfl
    · have : decide ((Zlw l : Int) > 1500) = false := by simp; omega
      rw [this, if_neg h2]
      cases Zra 0 l <;> rfl
theorem ZeD {K : Zaa} (hK : ∀ args h, K 33 args h = none) (h43 : ∀ args h, K 52 args h = none) (h67 : ∀ args h, K 66 args h = none) : Zaj U (Zab C K) 33 ⟨true, [.ty 22], [28], ZjV⟩ :=
  Zky hK _ (YdL h43 h67) _ fun a r h => by
    unfold ZjV at h
    split at h
    · rename_i h3
      cases h
      exact ⟨0, Zuf a h3⟩
    · cases h
end Go.Tev.S1
namespace Go.Tev.S1
open Go.Abs Go.Proofs
def ZrZ (l : List Val) : Option Int := if Zak l ≤ B then some (Zfz l : Int) else none
theorem Zs6 {l : List Val} (h : Zak l ≤ B) : ZrZ l = some (Zfz l : Int) := if_pos h
theorem ZwE (l : List Val) (k : Nat) (h1 : Zak l < k + 1) (h2 : Zak l ≤ B) : Zg5 (fun k => some (Za5 k)) (below Zak k ZrZ) (l.length + 1) l = some (Zfz l : Int) := by
  have hB : B = 2 ^ 36 := rfl
  unfold Zg5
  refine (Zc3 l (fun (b : List Val) => (Zfz b : Int)) (fun b v => .inl (b ++ [v])) (fun b => some (Zfz b : Int)) (fun i b => b = l.take i) ?_ ?_ ?_ [] rfl _ (Nat.lt_succ_self _)).trans ?_
  · intro i b v k' hv hlt hb
    subst hb
    have hmem := List.mem_of_getElem? hv
    have hs := ZeH hmem
    have hle := Zet l i
    have hl := Zex l
    have hd := ZgT (l.take i)
    have hd' := ZgT v.l
    have hbel : below Zak k ZrZ v.l = some (Zfz v.l : Int) := (ZdW (by omega)).trans (Zs6 (by omega))
    simp (disch := omega) only [Zep, Zbx hv, Option.bind_some, dlt hlt, cond_true, hbel, Zdh]
    have hi : (i : Int) + 1 = ((i + 1 : Nat) : Int) := rfl
    rw [hi]
    simp only [Zli, Zfz, Val.dep_eq v]
    by_cases hc : Za5 v.tok.k = 0
    · have hc2 : (Za5 v.tok.k != 0) = false := by simpa using hc
      simp only [hc2, cond_false, if_pos hc, Option.bind_some]
      congr 1; omega
    · have hc2 : (Za5 v.tok.k != 0) = true := by simpa using hc
      simp (disch := omega) only [hc2, cond_true, if_neg hc, hbel, Option.bind_some, Zdh]
      have hx : (if (1 : Int) + (Zfz v.l : Int) > (Zfz (l.take i) : Int) then (1 : Int) + (Zfz v.l : Int) else (Zfz (l.take i) : Int)) = (((max (Zfz (l.take i)) (max (1 + Zfz v.l) 0) : Nat)) : Int) := by split <;> omega
      rw [hx]
  · intro i b v b' hv hb hs
    cases hs
    rw [ZbG hv, hb]
  · intro b k' hb
    simp only [Zep, ZqY, cond_false]
  · rw [Zd0 (fun (b : List Val) (v : Val) => b ++ [v]), Zfk]
theorem Yc1 {K : Zaa} (hK : ∀ args h, K 28 args h = none) (h54 : ∀ args h, K 47 args h = none) : Zaj U (Zab C K) 28 ⟨true, [.ty 22], [3], ZrZ⟩ :=
  ZdY (U := U) (ak := [.ty 22]) (rts := [3]) Zak ZrZ fun k ih => Zkp hK _ _ (Zyr h54) ih _ fun a r h => by
    obtain ⟨h1, h2⟩ := Zc5 h
    unfold ZrZ at h2
    split at h2
    · rename_i h3; cases h2; exact ⟨_, ZwE a k h1 h3⟩
    · cases h2
theorem YbF {b n : Nat} (h1 : n ≤ 2 ^ 40) (h2 : b ≤ 96) : room b n = some () := by
  unfold room
  have h3 : n * b ≤ 2 ^ 40 * 96 := Nat.mul_le_mul h1 h2
  rw [if_pos ⟨by omega, by omega⟩]
end Go.Tev.S1
namespace Go.Tev
open Go.Abs
def Zo0 (b : UInt8) : UInt8 := if 65 ≤ b.toNat ∧ b.toNat ≤ 90 then b + 32 else b
def Ze0 (l : List UInt8) : List UInt8 := l.map Zo0
def ZbW (l : List UInt8) : Bool := (decide ((l.length : Int) > 2) && decide ((l.length : Int) ≤ 64)) && (l.take 2 == [45, 45])
def Val.ref (v : Val) : Bool := v.tok.k == 2 && (Ze0 v.tok.t == [118, 97, 114])
mutual
def Val.hasv : Val → Bool
  | .mk t l => (t.k == 2 && (Ze0 t.t == [118, 97, 114])) || Zbd l
def Zbd : List Val → Bool
  | [] => false
  | v :: r => v.hasv || Zbd r
end
theorem Val.hasv_eq (v : Val) : v.hasv = (v.ref || Zbd v.l) := by cases v; rfl
theorem Zpw (a b : List Val) : Zbd (a ++ b) = (Zbd a || Zbd b) := by
  induction a with
  | nil => simp [Zbd]
  | cons v a ih => simp [Zbd, ih, Bool.or_assoc]
def sp (v : Val) : Bool := v.tok.k == 13
def spL : List Val → List Val
  | [] => []
  | v :: r => if sp v then spL r else v :: r
def trR (l : List Val) : List Val := (spL l.reverse).reverse
def trL (l : List Val) : List Val := trR (spL l)
theorem Zsw (l : List Val) : Zak l.reverse = Zak l := by
  induction l with
  | nil => rfl
  | cons v l ih => simp [Zev, Zak, ih]; omega
theorem Zlp (l : List Val) : Zak (spL l) ≤ Zak l := by
  induction l with
  | nil => exact Nat.le_refl _
  | cons v r ih => unfold spL; split <;> simp only [Zak] <;> omega
theorem Ya6 (l : List Val) : Zak (trL l) ≤ Zak l := by
  unfold trL trR
  rw [Zsw]
  have h1 := Zlp (spL l).reverse
  rw [Zsw] at h1
  have h2 := Zlp l
  omega
def Zaw (l : List Val) : List UInt8 × List Val × Bool :=
  match spL l with
  | [] => ([], [], false)
  | x :: r => if x.tok.k = 1 ∧ ZbW x.tok.t = true then
      (match spL r with
      | [] => (x.tok.t, [], false)
      | y :: s => if y.tok.k = 18 then (x.tok.t, trL s, true) else ([], [], false))
    else ([], [], false)
theorem ZiE (l : List Val) : Zak (Zaw l).2.1 ≤ Zak l := by
  unfold Zaw
  have h1 := Zlp l
  cases e : spL l with
  | nil => simp [Zak]
  | cons x r =>
    rw [e] at h1
    simp only [Zak] at h1
    have h2 := Zlp r
    simp only
    split
    · cases e2 : spL r with
      | nil => simp [Zak]
      | cons y s =>
        rw [e2] at h2
        simp only [Zak] at h2
        simp only
        split
        · have := Ya6 s
          simp only; omega
        · simp [Zak]
    · simp [Zak]
end Go.Tev
namespace Go.Tev.S1
open Go.Abs Go.Proofs
theorem kf {K : Zaa} (hK : ZcF K) (f : Nat) (h : f ∉ [8, 26, 37, 43, 62, 73]) : ∀ args g, K f args g = none := fun args g => hK f args g h
theorem Zl7 (p q : List UInt8) : ZaP 0 p q = some (p.take q.length == q) := by
  unfold ZaP
  by_cases h : q.length ≤ p.length
  · have : decide ((p.length : Int) ≥ (q.length : Int)) = true := by simp; omega
    simp only [this, cond_true, Zs2]
    rw [if_pos (by omega)]
    simp
  · have : decide ((p.length : Int) ≥ (q.length : Int)) = false := by simp; omega
    simp only [this, cond_false, Option.bind_some]
    congr 1
    symm
    rw [beq_eq_false_iff_ne]
    intro he
    have := congrArg List.length he
    simp at this
    omega
theorem Zr4 (p : List UInt8) : ZeZ (fun a => some (a.1.take a.2.length == a.2)) 0 p = some (ZbW p) := by
  unfold ZeZ ZbW
  simp only [Option.bind_some, List.length_cons, List.length_nil]
  cases e1 : (p.take 2 == [45, 45]) <;> cases e2 : decide ((p.length : Int) > 2) <;> cases e3 : decide ((p.length : Int) ≤ 64) <;> rfl
theorem Zpn {K : Zaa} (hK : ZcF K) : Zaj U (Zab C K) 89 ⟨true, [.ty 9, .ty 9], [4], fun a => some (a.1.take a.2.length == a.2)⟩ :=
  ZcH (kf hK 89 (by decide)) _ fun a r h => by cases h; exact ⟨0, Zl7 a.1 a.2⟩
theorem Zr7 {K : Zaa} (hK : ZcF K) : Zaj U (Zab C K) 72 ⟨true, [.ty 9, .ty 9], [4], fun a => some (a.1.take a.2.length == a.2)⟩ :=
  ZfV (kf hK 72 (by decide)) _ (Zpn hK) _ fun a r h => by cases h; exact ⟨0, rfl⟩
theorem ZsI {K : Zaa} (hK : ZcF K) : Zaj U (Zab C K) 61 ⟨true, [.ty 9], [4], fun a => some (ZbW a)⟩ :=
  ZiW (kf hK 61 (by decide)) _ (Zr7 hK) _ fun a r h => by cases h; exact ⟨0, Zr4 a⟩
def YdW (l : List UInt8) : Option (List UInt8) := if l.length ≤ B then some (Ze0 l) else none
theorem YbU {l : List UInt8} (h : l.length ≤ B) : YdW l = some (Ze0 l) := if_pos h
def half (l b : List UInt8) : List Int := ZfY (b ++ l.drop b.length)
theorem ZsA {l : List UInt8} {i : Nat} {v : UInt8} (hv : l[i]? = some v) : (half l (Ze0 (l.take i)))[i]? = some (v.toNat : Int) := by
  have hlt : i < l.length := (List.getElem?_eq_some_iff.1 hv).1
  simp only [half, ZfY, Ze0, List.length_map, List.length_take, List.getElem?_map]
  rw [List.getElem?_append_right (by simp; omega)]
  simp only [List.length_map, List.length_take, List.getElem?_drop, Nat.min_eq_left (Nat.le_of_lt hlt)]
  rw [Nat.sub_self, Nat.add_zero, hv]; rfl
theorem Zoe {l : List UInt8} {i : Nat} (h : i ≤ l.length) : (half l (Ze0 (l.take i))).length = l.length := by
  simp [half, ZfY, Ze0]; omega
theorem Zq1 {l : List UInt8} {i : Nat} {v : UInt8} (hv : l[i]? = some v) : half l (Ze0 (l.take (i + 1))) = (half l (Ze0 (l.take i))).set i ((Zo0 v).toNat : Int) := by
  have hlt : i < l.length := (List.getElem?_eq_some_iff.1 hv).1
  apply List.ext_getElem?
  intro j
  rw [ZbG hv]
  simp only [half, ZfY, Ze0, List.map_append, List.map_cons, List.map_nil, List.length_append, List.length_map, List.length_take, Nat.min_eq_left (Nat.le_of_lt hlt), List.length_cons, List.length_nil]
  have hd : l.drop i = v :: l.drop (i + 1) := by
    rw [List.drop_eq_getElem_cons hlt]
    have := List.getElem?_eq_getElem hlt
    rw [hv] at this
    cases this; rfl
  rw [hd]
  simp only [List.append_assoc, List.cons_append, List.nil_append, List.map_append, List.map_cons, List.map_map]
  have hl : (List.map ((fun c => ((UInt8.toNat c : Nat) : Int)) ∘ Zo0) (List.take i l)).length = i := by simp; omega
  rw [List.set_append_right _ _ (by rw [hl]; exact Nat.le_refl _), hl, Nat.sub_self]
  rfl
theorem Zoh {l : List UInt8} {i : Nat} {v : UInt8} (hv : l[i]? = some v) (h : Zo0 v = v) : half l (Ze0 (l.take (i + 1))) = half l (Ze0 (l.take i)) := by
  rw [Zq1 hv, h]
  have h2 := ZsA hv
  apply List.ext_getElem?
  intro j
  by_cases hj : i = j
  · subst hj
    rw [List.getElem?_set_self (by rw [Zoe]; exact (List.getElem?_eq_some_iff.1 hv).1; exact Nat.le_of_lt (List.getElem?_eq_some_iff.1 hv).1), h2]
  · rw [List.getElem?_set_ne hj]
theorem ZpM (l : List UInt8) : Zoa ((half l (Ze0 l)).take l.length) = Ze0 l := by
  have : half l (Ze0 l) = ZfY (Ze0 l) := by
    unfold half
    rw [List.drop_eq_nil_of_le (by simp [Ze0]), List.append_nil]
  rw [this, List.take_of_length_le (by simp [ZfY, Ze0])]
  unfold Zoa ZfY
  rw [List.map_map]
  conv => rhs; rw [← List.map_id (Ze0 l)]
  apply List.map_congr_left
  intro c _
  simp
theorem YaL {v : UInt8} (h : 65 ≤ v.toNat ∧ v.toNat ≤ 90) : ((Zo0 v).toNat : Int) = (v.toNat : Int) + 32 := by
  unfold Zo0
  rw [if_pos h, UInt8.toNat_add]
  have : (32 : UInt8).toNat = 32 := rfl
  rw [this]; omega
theorem Yct {v : UInt8} (h : ¬ (65 ≤ v.toNat ∧ v.toNat ≤ 90)) : Zo0 v = v := if_neg h
theorem YdQ {n : Int} (h1 : 0 ≤ n) (h2 : n < 256) : IntKind.u8.wrap n = n := by
  simp [IntKind.wrap, IntKind.signed, IntKind.bits]
  omega
theorem Zuh (l : List UInt8) (h2 : l.length ≤ B) : ZfM (l.length + 1) l = some (Ze0 l) := by
  have hB : B = 2 ^ 36 := rfl
  unfold ZfM
  refine ((congrArg (fun z => Zgp _ _ _ z) (show ZfY l = half l (Ze0 (l.take 0)) by simp [half, Ze0])).trans (ZlZ l (half l) (fun b v => .inl (b ++ [Zo0 v])) (fun b => some (Zoa ((half l b).take l.length))) (fun i b => b = Ze0 (l.take i)) ?_ ?_ ?_ [] rfl _ (Nat.lt_succ_self _))).trans ?_
  · intro i b v k' hv hlt hb
    subst hb
    have hlen := Zoe (l := l) (i := i) (by omega)
    have hn := v.toNat_lt
    have hg : (if 0 ≤ (i : Int) ∧ (i : Int) < l.length ∧ (i : Int) < (half l (Ze0 (l.take i))).length then some (i : Int).toNat else none) = some i := by
      rw [if_pos (by omega)]; rfl
    simp (disch := omega) only [ZdS, dlt hlt, cond_true, hg, Option.bind_some, ZsA hv, Zdh]
    have hi : (i : Int) + 1 = ((i + 1 : Nat) : Int) := rfl
    rw [hi]
    have hsn : half l (Ze0 (l.take i) ++ [Zo0 v]) = half l (Ze0 (l.take (i + 1))) := by rw [ZbG hv]; simp [Ze0]
    rw [hsn]
    by_cases hc : 65 ≤ v.toNat ∧ v.toNat ≤ 90
    · have e1 : decide ((v.toNat : Int) ≥ 65) = true := by simp; omega
      have e2 : decide ((v.toNat : Int) ≤ 90) = true := by simp; omega
      have e3 : i < (half l (Ze0 (l.take i))).length := by omega
      simp only [e1, e2, cond_true, hg, Option.bind_some, if_pos e3]
      rw [Zq1 hv, YaL hc]
      congr 3
      rw [YdQ (n := (v.toNat : Int) + 97) (by omega) (by omega)]
      rw [YdQ (by omega) (by omega)]
      omega
    · have e1 : (bif decide ((v.toNat : Int) ≥ 65) then decide ((v.toNat : Int) ≤ 90) else false) = false := by
        cases a : decide ((v.toNat : Int) ≥ 65)
        · rfl
        · simp at a ⊢; omega
      simp only [e1, cond_false, Option.bind_some]
      rw [Zoh hv (Yct hc)]
  · intro i b v b' hv hb hs
    cases hs
    rw [ZbG hv, hb]; simp [Ze0]
  · intro b k' hb
    rw [List.take_length] at hb
    subst hb
    have := Zoe (l := l) (i := l.length) (Nat.le_refl _)
    rw [List.take_length] at this
    simp only [ZdS, ZqY, cond_false, this, Nat.le_refl, if_true, Option.bind_some]
  · rw [Zd0 (fun (b : List UInt8) (v : UInt8) => b ++ [Zo0 v])]
    have : ∀ (l b : List UInt8), l.foldl (fun (b : List UInt8) (v : UInt8) => b ++ [Zo0 v]) b = b ++ Ze0 l := by
      intro l
      induction l with
      | nil => intro b; simp [Ze0]
      | cons v l ih => intro b; simp only [List.foldl_cons, ih]; simp [Ze0]
    rw [this, List.nil_append, ZpM]
theorem Ycg {K : Zaa} (hK : ZcF K) : Zaj U (Zab C K) 41 ⟨true, [.ty 9], [9], YdW⟩ :=
  Zjk (kf hK 41 (by decide)) _ fun a r h => by
    unfold YdW at h
    split at h
    · rename_i h3; cases h; exact ⟨_, Zuh a h3⟩
    · cases h
end Go.Tev.S1
namespace Go.Tev.S1
open Go.Abs Go.Proofs
theorem Ydt : ∀ (c : Nat), c = 118 ∨ c = 97 ∨ c = 114 → ∀ (n : Nat), n < 256 → ((IntKind.u8.wrap (BitVec.ofInt 8 (n : Int) ||| BitVec.ofInt 8 32).toNat) == (c : Int)) = decide ((Zo0 (UInt8.ofNat n)).toNat = c) := by
  intro c hc
  rcases hc with rfl | rfl | rfl <;> decide +kernel
theorem Zry {b : UInt8} {c : UInt8} (hc : c.toNat = 118 ∨ c.toNat = 97 ∨ c.toNat = 114) : ((IntKind.u8.wrap (BitVec.ofInt (IntKind.u8).bits (b.toNat : Int) ||| BitVec.ofInt (IntKind.u8).bits (32 : Int)).toNat) == (c.toNat : Int)) = (Zo0 b == c) := by
  have h := Ydt c.toNat hc b.toNat b.toNat_lt
  rw [UInt8.ofNat_toNat] at h
  refine h.trans ?_
  rw [Bool.eq_iff_iff, decide_eq_true_iff, beq_iff_eq]
  exact ⟨UInt8.toNat_inj.1, fun h => h ▸ rfl⟩
theorem ZuD (v : Val) : ZgZ 0 v = some v.ref := by
  unfold ZgZ Val.ref
  cases e : (v.tok.k == 2)
  · rfl
  · simp only [cond_true, Option.bind_some, Bool.true_and]
    have h1 := fun b => Zry (b := b) (c := 118) (Or.inl rfl)
    have h2 := fun b => Zry (b := b) (c := 97) (Or.inr (Or.inl rfl))
    have h3 := fun b => Zry (b := b) (c := 114) (Or.inr (Or.inr rfl))
    have c1 : (((118 : UInt8).toNat : Nat) : Int) = 118 := rfl
    have c2 : (((97 : UInt8).toNat : Nat) : Int) = 97 := rfl
    have c3 : (((114 : UInt8).toNat : Nat) : Int) = 114 := rfl
    rw [c1] at h1
    rw [c2] at h2
    rw [c3] at h3
    rcases v.tok.t with _ | ⟨a, _ | ⟨b, _ | ⟨c, _ | ⟨d, r⟩⟩⟩⟩
    · rfl
    · have : (Ze0 [a] == [118, 97, 114]) = false := by simp [Ze0]
      rw [this]; rfl
    · have : (Ze0 [a, b] == [118, 97, 114]) = false := by simp [Ze0]
      rw [this]; rfl
    · have e0 : (([a, b, c].length : Int) == 3) = true := rfl
      have g0 : ZeC [a, b, c] 0 = some a := rfl
      have g1 : ZeC [a, b, c] 1 = some b := rfl
      have g2 : ZeC [a, b, c] 2 = some c := rfl
      simp only [e0, g0, g1, g2, cond_true, Option.bind_some, h1]
      have hl : (Ze0 [a, b, c] == [118, 97, 114]) = (Zo0 a == 118 && (Zo0 b == 97 && Zo0 c == 114)) := by
        simp only [Ze0, List.map_cons, List.map_nil, List.cons_beq_cons, Bool.and_true, beq_self_eq_true]
      rw [hl]
      cases e1 : (Zo0 a == 118)
      · rfl
      · simp only [cond_true, Option.bind_some, h2]
        cases e2 : (Zo0 b == 97)
        · rfl
        · simp only [cond_true, Option.bind_some, h3]
          rfl
    · have e0 : (((a :: b :: c :: d :: r).length : Int) == 3) = false := by
        simp only [List.length_cons, beq_eq_false_iff_ne]; omega
      have : (Ze0 (a :: b :: c :: d :: r) == [118, 97, 114]) = false := by simp [Ze0]
      rw [e0, this]; rfl
theorem Zrr {K : Zaa} (hK : ZcF K) : Zaj U (Zab C K) 55 ⟨true, [.ty 51], [4], fun v => some v.ref⟩ :=
  Zkh (kf hK 55 (by decide)) _ fun a r h => by cases h; exact ⟨0, ZuD a⟩
def ZxT (l : List Val) : Option Bool := if Zak l ≤ B then some (Zbd l) else none
theorem Zny {l : List Val} (h : Zak l ≤ B) : ZxT l = some (Zbd l) := if_pos h
def Zgg : List Val → Int → Int
  | [], _ => -1
  | v :: r, i => if v.hasv then i else Zgg r (i + 1)
theorem Zwt (l : List Val) : ∀ i : Nat, decide (Zgg l (i : Int) ≥ 0) = Zbd l := by
  induction l with
  | nil => intro i; rfl
  | cons v r ih =>
    intro i
    by_cases h : v.hasv = true
    · have e : Zgg (v :: r) (i : Int) = i := by simp only [Zgg, h, if_true]
      rw [e, Zbd, h]; simp
    · have e : Zgg (v :: r) (i : Int) = Zgg r ((i + 1 : Nat) : Int) := by simp only [Zgg, if_neg h]; rfl
      rw [e, ih (i + 1), Zbd, (Bool.not_eq_true _).mp h, Bool.false_or]
def sV1 (k : Nat) (v : Val) : Option Bool := if Zak v.l < k ∧ v.tot ≤ B then some v.hasv else none
def sV2 (k : Nat) (l : List Val) : Option Int := if Zak l < k + 1 ∧ Zak l ≤ B then some (Zgg l 0) else none
def sV3 (k : Nat) (l : List Val) : Option Bool := if Zak l < k + 1 ∧ Zak l ≤ B then some (Zbd l) else none
theorem YbZ (k : Nat) (v : Val) (h1 : Zak v.l < k) (h2 : v.tot ≤ B) : ZfF YdW (below Zak k ZxT) 0 v = some v.hasv := by
  have he := v.tot_eq
  have hbel : below Zak k ZxT v.l = some (Zbd v.l) := (ZdW (show Zak v.l < k by omega)).trans (Zny (by omega))
  unfold ZfF
  simp only [YbU (show v.tok.t.length ≤ B by omega), hbel, Option.bind_some]
  rw [Val.hasv_eq, Val.ref]
  cases e1 : (v.tok.k == 2) <;> cases e2 : (Ze0 v.tok.t == [118, 97, 114]) <;> cases e5 : Zbd v.l <;> first | rfl | simp [e2]
theorem Ycp (k : Nat) (l : List Val) (h1 : Zak l < k + 1) (h2 : Zak l ≤ B) : Zas (sV1 k) (l.length + 1) l = some (Zgg l 0) := by
  have hB : B = 2 ^ 36 := rfl
  unfold Zas
  refine (Zc3 l (fun (_ : Nat) => (0 : Int)) (fun b v => if v.hasv then .inr (some (b : Int)) else .inl (b + 1)) (fun b => some (-1 : Int)) (fun i b => b = i) ?_ ?_ ?_ 0 rfl _ (Nat.lt_succ_self _)).trans ?_
  · intro i b v k' hv hlt hb
    subst hb
    have hmem := List.mem_of_getElem? hv
    have hs := ZeH hmem
    have hm := Zk7 hmem
    have hl := Zex l
    have h3 : sV1 k (Val.mk v.tok v.l) = some v.hasv := by rw [Val.eta]; exact if_pos ⟨by omega, by omega⟩
    simp (disch := omega) only [Zap, Zbx hv, Option.bind_some, dlt hlt, cond_true, h3, Zdh]
    cases v.hasv <;> rfl
  · intro i b v b' hv hb hs
    subst hb
    cases e : v.hasv <;> rw [e] at hs <;> cases hs
    rfl
  · intro b k' hb
    simp only [Zap, ZqY, cond_false]
  · clear h1 h2
    have : ∀ (l : List Val) (b : Nat), ZkT (fun (b : Nat) (v : Val) => if v.hasv then .inr (some (b : Int)) else .inl (b + 1)) (fun _ => some (-1 : Int)) l b = some (Zgg l (b : Int)) := by
      intro l
      induction l with
      | nil => intro b; rfl
      | cons v l ih =>
        intro b
        simp only [ZkT, Zgg]
        cases v.hasv with
        | true => rfl
        | false => exact ih (b + 1)
    exact this l 0
theorem Yby {K : Zaa} (hK : ZcF K) : Zaj U (Zab C K) 14 ⟨true, [.ty 22], [4], ZxT⟩ :=
  ZdY (U := U) (ak := [.ty 22]) (rts := [4]) Zak ZxT fun k ih =>
    have m1 : Zaj U (Zab C K) 40 ⟨true, [.ty 51], [4], sV1 k⟩ := ZjE (kf hK 40 (by decide)) _ _ (Ycg hK) ih _ fun a r h => by
      unfold sV1 at h
      split at h
      · rename_i h3; cases h; exact ⟨0, YbZ k a h3.1 h3.2⟩
      · cases h
    have m2 : Zaj U (Zab C K) 60 ⟨true, [.ty 22, .fn 40], [3], sV2 k⟩ := Zbm (kf hK 60 (by decide)) _ m1 _ fun a r h => by
      unfold sV2 at h
      split at h
      · rename_i h3; cases h; exact ⟨_, Ycp k a h3.1 h3.2⟩
      · cases h
    have m3 : Zaj U (Zab C K) 39 ⟨true, [.ty 22, .fn 40], [4], sV3 k⟩ := Zbc (kf hK 39 (by decide)) _ m2 _ fun a r h => by
      unfold sV3 at h
      split at h
      · rename_i h3; cases h
        refine ⟨0, ?_⟩
        unfold Zax
        rw [show sV2 k a = some (Zgg a 0) from if_pos h3]
        exact congrArg some (Zwt a 0)
      · cases h
    ZlP (kf hK 14 (by decide)) _ m3 _ fun a r h => by
      obtain ⟨h1, h2⟩ := Zc5 h
      unfold ZxT at h2
      split at h2
      · rename_i h3; cases h2
        refine ⟨0, ?_⟩
        unfold Zle
        rw [show sV3 k a = some (Zbd a) from if_pos ⟨h1, h3⟩]
        rfl
      · cases h2
end Go.Tev.S1
namespace Go.Tev
open Go.Abs
mutual
def Val.siz (lim : Int) : Val → Int
  | .mk t l => IntKind.i64.wrap ((IntKind.i64.wrap ((IntKind.i64.wrap ((1 : Int) + (t.t.length : Int))) + (t.u.length : Int))) + Zvj lim 0 l)
def Zvj (lim acc : Int) : List Val → Int
  | [] => acc
  | v :: r => if acc ≤ lim then Zvj lim (IntKind.i64.wrap (acc + v.siz (IntKind.i64.wrap (lim - acc)))) r else acc
end
theorem Val.siz_eq (lim : Int) (v : Val) : v.siz lim = IntKind.i64.wrap ((IntKind.i64.wrap ((IntKind.i64.wrap ((1 : Int) + (v.tok.t.length : Int))) + (v.tok.u.length : Int))) + Zvj lim 0 v.l) := by cases v; rfl
mutual
def Val.eqb : Val → Val → Bool
  | .mk t l, .mk t' l' => Tok.eqb t t' && Zu5 l l'
def Zu5 : List Val → List Val → Bool
  | [], [] => true
  | v :: r, v' :: r' => v.eqb v' && Zu5 r r'
  | _, _ => false
end
end Go.Tev
namespace Go.Tev.S1
open Go.Abs Go.Proofs
def Zmu (a : List Val × Int) : Option Int := if Zak a.1 ≤ B then some (Zvj a.2 0 a.1) else none
theorem ZnH {l : List Val} {c : Int} (h : Zak l ≤ B) : Zmu (l, c) = some (Zvj c 0 l) := if_pos h
theorem Zxx (lim : Int) (l : List Val) (k : Nat) (h1 : Zak l < k + 1) (h2 : Zak l ≤ B) : Zg2 (below (fun a : List Val × Int => Zak a.1) k Zmu) (l.length + 2) l lim = some (Zvj lim 0 l) := by
  have hB : B = 2 ^ 36 := rfl
  unfold Zg2 Zgp
  have main : ∀ (r : List Val) (i : Nat) (acc : Int) (fuel : Nat), l.drop i = r → i ≤ l.length → r.length + 1 < fuel → Zgk (fun y k_1 => Zcw (below (fun a : List Val × Int => Zak a.1) k Zmu) (l.length + 2) l lim 0 (fun z1 => some z1) y.1 y.2.1 fun a0 a1 => k_1 (a0, a1, ())) fuel (acc, (i : Int), ()) = some (Zvj lim acc r) := by
    intro r
    induction r with
    | nil =>
      intro i acc fuel hr hi hf
      obtain ⟨n, rfl⟩ : ∃ n, fuel = n + 1 := ⟨fuel - 1, by omega⟩
      have : i = l.length := by
        have := congrArg List.length hr
        simp at this; omega
      subst this
      simp only [Zgk, Zcw, ZqY, cond_false, Option.bind_some, Zvj]
    | cons v r ih =>
      intro i acc fuel hr hi hf
      obtain ⟨n, rfl⟩ : ∃ n, fuel = n + 1 := ⟨fuel - 1, by omega⟩
      have hv : l[i]? = some v := by
        have := congrArg (fun x => x[0]?) hr
        simpa using this
      have hlt : i < l.length := (List.getElem?_eq_some_iff.1 hv).1
      have hr' : l.drop (i + 1) = r := by rw [← List.drop_drop, hr]; rfl
      have hmem := List.mem_of_getElem? hv
      have hs := ZeH hmem
      have hl := Zex l
      have hbel : below (fun a : List Val × Int => Zak a.1) k Zmu (v.l, IntKind.i64.wrap (lim - acc)) = some (Zvj (IntKind.i64.wrap (lim - acc)) 0 v.l) := (ZdW (sz := fun a : List Val × Int => Zak a.1) (show Zak v.l < k by omega)).trans (ZnH (by omega))
      rw [Zvj, Val.siz_eq]
      by_cases hc : acc ≤ lim
      · have e1 : decide (acc ≤ lim) = true := decide_eq_true hc
        rw [if_pos hc]
        simp only [Zgk, Zcw, dlt hlt, cond_true, Option.bind_some, e1, Zbx hv, hbel]
        rw [Zbh (by omega)]
        exact ih (i + 1) _ n hr' (by omega) (by simp at hf; omega)
      · have e1 : decide (acc ≤ lim) = false := decide_eq_false hc
        rw [if_neg hc]
        simp only [Zgk, Zcw, dlt hlt, cond_true, cond_false, Option.bind_some, e1]
  exact main l 0 0 (l.length + 2) rfl (Nat.zero_le _) (by omega)
theorem YaG {K : Zaa} (hK : ZcF K) : Zaj U (Zab C K) 27 ⟨true, [.ty 22, .ty 3], [3], Zmu⟩ :=
  ZdY (U := U) (ak := [.ty 22, .ty 3]) (rts := [3]) (fun a : List Val × Int => Zak a.1) Zmu fun k ih => Zko (kf hK 27 (by decide)) _ ih _ fun a r h => by
    obtain ⟨h1, h2⟩ := Zc5 h
    unfold Zmu at h2
    split at h2
    · rename_i h3; cases h2; exact ⟨_, Zxx a.2 a.1 k h1 h3⟩
    · cases h2
def Zvq (l : List Val) : Bool := decide (Zvj 300 0 l > 300) || decide (Zfz l > 40)
def Zpt (l : List Val) : Option Bool := if Zak l ≤ B then some (Zvq l) else none
theorem ZwS {l : List Val} (h : Zak l ≤ B) : Zpt l = some (Zvq l) := if_pos h
theorem ZuU (l : List Val) (h : Zak l ≤ B) : ZfD Zmu ZrZ 0 l = some (Zvq l) := by
  unfold ZfD Zvq
  rw [ZnH h, Zs6 h]
  simp only [Option.bind_some]
  have : decide ((Zfz l : Int) > 40) = decide (Zfz l > 40) := by simp; omega
  rw [← this]
  cases decide (Zvj 300 0 l > 300) <;> rfl
theorem Yb2 {K : Zaa} (hK : ZcF K) : Zaj U (Zab C K) 9 ⟨true, [.ty 22], [4], Zpt⟩ :=
  Zi5 (kf hK 9 (by decide)) _ _ (YaG hK) (Yc1 (kf hK 28 (by decide)) (kf hK 47 (by decide))) _ fun a r h => by
    unfold Zpt at h
    split at h
    · rename_i h3; cases h; exact ⟨0, ZuU a h3⟩
    · cases h
def Zqd (a : List Val × List Val) : Option Bool := if Zak a.1 ≤ B ∧ Zak a.2 ≤ B then some (Zu5 a.1 a.2) else none
theorem Ztz {l m : List Val} (h : Zak l ≤ B) (h2 : Zak m ≤ B) : Zqd (l, m) = some (Zu5 l m) := if_pos ⟨h, h2⟩
theorem Val.eqb_eq (v w : Val) : v.eqb w = (Tok.eqb v.tok w.tok && Zu5 v.l w.l) := by cases v; cases w; rfl
theorem Ztj : ∀ (l m : List Val), l.length ≠ m.length → Zu5 l m = false
  | [], [], h => absurd rfl h
  | [], _ :: _, _ => rfl
  | _ :: _, [], _ => rfl
  | v :: r, w :: s, h => by
    rw [Zu5, Ztj r s (by simp at h; exact h), Bool.and_false]
theorem ZwM (l m : List Val) (k : Nat) (h1 : Zak l < k + 1) (h2 : Zak l ≤ B) (h3 : Zak m ≤ B) : Zg8 (below (fun a : List Val × List Val => Zak a.1) k Zqd) (l.length + 1) l m = some (Zu5 l m) := by
  have hB : B = 2 ^ 36 := rfl
  unfold Zg8
  by_cases hle : l.length = m.length
  · have e0 : ((l.length : Int) != (m.length : Int)) = false := by simp [hle]
    rw [e0, cond_false]
    refine (Zc3 (l.zip m) (fun (_ : Unit) => false) (fun b v => if v.1.eqb v.2 then .inl () else .inr (some false)) (fun b => some true) (fun i b => True) ?_ ?_ ?_ () trivial _ (by simp; omega)).trans ?_
    · intro i b v k' hv hlt hb
      have hz : i < l.length ∧ i < m.length := by simp at hlt; omega
      obtain ⟨hv1, hv2⟩ := List.getElem?_zip_eq_some.1 hv
      have hmem := List.mem_of_getElem? hv1
      have hmem2 := List.mem_of_getElem? hv2
      have hs := ZeH hmem
      have hs2 := ZeH hmem2
      have hl := Zex l
      have hbel : below (fun a : List Val × List Val => Zak a.1) k Zqd (v.1.l, v.2.l) = some (Zu5 v.1.l v.2.l) := (ZdW (sz := fun a : List Val × List Val => Zak a.1) (show Zak v.1.l < k by omega)).trans (Ztz (by omega) (by omega))
      simp (disch := omega) only [Zee, Zbx hv1, Zbx hv2, Option.bind_some, dlt hz.1, cond_true, hbel, Zdh]
      have hi : (i : Int) + 1 = ((i + 1 : Nat) : Int) := rfl
      rw [hi, Val.eqb_eq]
      cases e1 : Tok.eqb v.1.tok v.2.tok <;> cases e5 : Zu5 v.1.l v.2.l <;> rw [e5] at hbel <;> first | rfl | simp [hbel]
    · intro i b v b' hv hb hs
      trivial
    · intro b k' hb
      have : (l.zip m).length = l.length := by simp; omega
      rw [this]
      simp only [Zee, ZqY, cond_false]
    · clear h1 h2 h3 e0
      induction l generalizing m with
      | nil => cases m with
        | nil => rfl
        | cons w m => simp at hle
      | cons v l ih => cases m with
        | nil => simp at hle
        | cons w m =>
          simp only [List.zip_cons_cons, ZkT, Zu5]
          cases v.eqb w with
          | true => simpa using ih m (by simp at hle; exact hle)
          | false => rfl
  · have e0 : ((l.length : Int) != (m.length : Int)) = true := by simp; omega
    rw [e0, Ztj l m hle]; rfl
theorem Ydj {K : Zaa} (hK : ZcF K) : Zaj U (Zab C K) 15 ⟨true, [.ty 22, .ty 22], [4], Zqd⟩ :=
  ZdY (U := U) (ak := [.ty 22, .ty 22]) (rts := [4]) (fun a : List Val × List Val => Zak a.1) Zqd fun k ih => Zkj (kf hK 15 (by decide)) _ ih _ fun a r h => by
    obtain ⟨h1, h2⟩ := Zc5 h
    unfold Zqd at h2
    split at h2
    · rename_i h3; cases h2; exact ⟨_, ZwM a.1 a.2 k h1 h3.1 h3.2⟩
    · cases h2
end Go.Tev.S1
namespace Go.Tev.S1
open Go.Abs Go.Proofs
theorem Zw8 (l : List Val) (k : Nat) (h1 : Zak l < k + 1) (h2 : Zak l ≤ B) : ZfH (below Zak k Zmp) (l.length + 1) l = some (Zak l : Int) := by
  have hB : B = 2 ^ 36 := rfl
  unfold ZfH
  refine (Zc3 l (fun (b : List Val) => (Zak b : Int)) (fun b v => .inl (b ++ [v])) (fun b => some (Zak b : Int)) (fun i b => b = l.take i) ?_ ?_ ?_ [] rfl _ (Nat.lt_succ_self _)).trans ?_
  · intro i b v k' hv hlt hb
    subst hb
    have hmem := List.mem_of_getElem? hv
    have hs := ZeH hmem
    have ht := ZtV hv
    have hle := Zet l (i + 1)
    have hl := Zex l
    have he := v.tot_eq
    have hbel : below Zak k Zmp v.l = some (Zak v.l : Int) := (ZdW (show Zak v.l < k by omega)).trans (ZiC (by omega))
    simp (disch := omega) only [ZdQ, Zbx hv, Option.bind_some, dlt hlt, cond_true, hbel, Zdh]
    have hx : (Zak (l.take i) : Int) + (1 + (v.tok.t.length : Int) + (v.tok.u.length : Int) + (Zak v.l : Int)) = (Zak (l.take i ++ [v]) : Int) := by
      rw [Zev]; simp only [Zak]; omega
    rw [hx]; rfl
  · intro i b v b' hv hb hs
    cases hs
    rw [ZbG hv, hb]
  · intro b k' hb
    simp only [ZdQ, ZqY, cond_false]
  · rw [Zd0 (fun (b : List Val) (v : Val) => b ++ [v]), Zfk]
theorem Zsp {K : Zaa} (hK : ZcF K) : Zaj U (Zab C K) 44 ⟨true, [.ty 22], [3], Zmp⟩ :=
  ZdY (U := U) (ak := [.ty 22]) (rts := [3]) Zak Zmp fun k ih => Zjr (kf hK 44 (by decide)) _ ih _ fun a r h => by
    obtain ⟨h1, h2⟩ := Zc5 h
    obtain ⟨h3, rfl⟩ := ZuX h2
    exact ⟨_, Zw8 a k h1 h3⟩
def YcT (l : List Val) : Int × Int := if ZaN l = 0 then ((Zak l : Int), 0) else (0, ZaN l)
def Ydh (l : List Val) : Option (Int × Int) := if Zak l ≤ B then some (YcT l) else none
theorem Ybm {l : List Val} (h : Zak l ≤ B) : Ydh l = some (YcT l) := if_pos h
theorem ZrE (l : List Val) (h : Zak l ≤ B) : Zf1 ZjV Zmp 0 l = some (YcT l) := by
  unfold Zf1 YcT
  rw [Zfx h, ZiC h]
  simp only [Option.bind_some]
  by_cases h : ZaN l = 0
  · have : (ZaN l != 0) = false := by simpa using h
    rw [this, if_pos h]; rfl
  · have : (ZaN l != 0) = true := by simpa using h
    rw [this, if_neg h]; rfl
theorem Zyx {K : Zaa} (hK : ZcF K) : Zaj U (Zab C K) 24 ⟨true, [.ty 22], [3, 28], Ydh⟩ :=
  ZjM (kf hK 24 (by decide)) _ _ (ZeD (kf hK 33 (by decide)) (kf hK 52 (by decide)) (kf hK 66 (by decide))) (Zsp hK) _ fun a r h => by
    unfold Ydh at h
    split at h
    · rename_i h3; cases h; exact ⟨0, ZrE a h3⟩
    · cases h
theorem ZmU {R : Type} (G : List Val → (List Val → Option R) → Option R) (kx : List Val → Option R)
    (hG : ∀ l k, G l k = match l with
      | [] => kx []
      | v :: r => if sp v then k r else kx (v :: r)) : ∀ (l : List Val) (n : Nat), l.length < n → ZtX G n l = kx (spL l)
  | [], n, h => by
    obtain ⟨n, rfl⟩ : ∃ m, n = m + 1 := ⟨n - 1, by omega⟩
    rw [Zhb, hG]; rfl
  | v :: r, n, h => by
    obtain ⟨n, rfl⟩ : ∃ m, n = m + 1 := ⟨n - 1, by omega⟩
    rw [Zhb, hG, spL]
    simp only
    by_cases hv : sp v = true
    · rw [if_pos hv, if_pos hv]
      exact ZmU G kx hG r n (by simp at h; omega)
    · rw [if_neg hv, if_neg hv]
theorem Zwj {R : Type} (G : List Val → (List Val → Option R) → Option R) (kx : List Val → Option R)
    (h0 : ∀ k, G [] k = kx []) (hG : ∀ l v k, l.length < 2 ^ 62 → G (l ++ [v]) k = if sp v then k l else kx (l ++ [v])) : ∀ (m l : List Val) (n : Nat), l.reverse = m → l.length < n → l.length < 2 ^ 62 → ZtX G n l = kx (trR l)
  | [], l, n, e, h, hb => by
    have : l = [] := by simpa using e
    subst this
    obtain ⟨n, rfl⟩ : ∃ m, n = m + 1 := ⟨n - 1, by omega⟩
    rw [Zhb, h0]; rfl
  | v :: r, l, n, e, h, hb => by
    have : l = r.reverse ++ [v] := by rw [← List.reverse_reverse l, e]; simp
    subst this
    simp at hb h
    obtain ⟨n, rfl⟩ : ∃ m, n = m + 1 := ⟨n - 1, by omega⟩
    rw [Zhb, hG _ _ _ (by simp; omega)]
    have e2 : trR (r.reverse ++ [v]) = if sp v then trR r.reverse else r.reverse ++ [v] := by
      unfold trR
      rw [e, spL]
      split
      · simp
      · simp
    rw [e2]
    by_cases hv : sp v = true
    · rw [if_pos hv, if_pos hv]
      exact Zwj G kx h0 hG r r.reverse n (by simp) (by simp; omega) (by simp; omega)
    · rw [if_neg hv, if_neg hv]
theorem ZvA {v : Val} {r : List Val} : ZeC (v :: r) 0 = some v := rfl
theorem ZlQ {v : Val} {r : List Val} : Zs2 (v :: r) 1 ((v :: r).length : Int) = some r := by
  unfold Zs2
  rw [if_pos (by simp; omega)]
  simp
theorem ZzM {v : Val} {r : List Val} : decide (((v :: r).length : Int) > 0) = true := by simp
theorem Zvy {l : List Val} {v : Val} : ZeC (l ++ [v]) (l.length : Int) = some v := Zbx (by simp)
theorem Zxv {l : List Val} {v : Val} : Zs2 (l ++ [v]) 0 (l.length : Int) = some l := by
  unfold Zs2
  rw [if_pos (by simp; omega)]
  simp
theorem Zrh (l : List Val) : ZfW (l.length + 1) l = some (spL l) := by
  unfold ZfW
  refine ZmU _ (fun z => some z) ?_ l _ (Nat.lt_succ_self _)
  intro l k
  cases l with
  | nil => rfl
  | cons v r =>
    simp only [Zfb, ZzM, cond_true, ZvA, Option.bind_some, ZlQ, sp]
    exact Bool.cond_eq_ite _ _ _
theorem Zs1 {K : Zaa} (hK : ZcF K) : Zaj U (Zab C K) 67 ⟨true, [.ty 22], [22], fun l => some (spL l)⟩ :=
  Zjx (kf hK 67 (by decide)) _ fun a r h => by cases h; exact ⟨_, Zrh a⟩
def Zy8 (l : List Val) : Option (List Val) := if Zak l ≤ B then some (trL l) else none
theorem ZzW {l : List Val} (h : Zak l ≤ B) : Zy8 l = some (trL l) := if_pos h
theorem ZwK {l : List Val} {v : Val} (h : l.length < 2 ^ 62) : IntKind.i64.wrap (((l ++ [v]).length : Int) - 1) = (l.length : Int) := by
  rw [Zdh (by simp <;> omega) (by simp <;> omega)]; simp only [List.length_append, List.length_cons, List.length_nil]; omega
theorem Zy4 {v : Val} {r : List Val} : decide (((r ++ [v]).length : Int) > 0) = true := by simp
theorem ZvT (l : List Val) (h : Zak l ≤ B) : ZiV (fun l => some (spL l)) ((spL l).length + 1) l = some (trL l) := by
  have hB : B = 2 ^ 36 := rfl
  unfold ZiV
  simp only [Option.bind_some]
  have h1 := Zex (spL l)
  have h2 := Zlp l
  refine Zwj _ (fun z => some z) ?_ ?_ _ (spL l) _ rfl (Nat.lt_succ_self _) (by omega)
  · intro k; rfl
  · intro l v k hl
    simp only [Zgr, Zy4, cond_true, ZwK hl, Zvy, Option.bind_some, Zxv, sp]
    exact Bool.cond_eq_ite _ _ _
theorem Ydd {K : Zaa} (hK : ZcF K) : Zaj U (Zab C K) 68 ⟨true, [.ty 22], [22], Zy8⟩ :=
  ZlL (kf hK 68 (by decide)) _ (Zs1 hK) _ fun a r h => by
    unfold Zy8 at h
    split at h
    · rename_i h3; cases h; exact ⟨_, ZvT a h3⟩
    · cases h
end Go.Tev.S1
namespace Go.Tev.S1
open Go.Abs Go.Proofs
def Znh (v : Val) : Option (List UInt8 × List Val × Bool) := if v.tot ≤ B then some (Zaw v.l) else none
theorem ZlF {v : Val} (h : v.tot ≤ B) : Znh v = some (Zaw v.l) := if_pos h
theorem Zsn {α : Type} {v : α} {r : List α} : (((v :: r).length : Int) == 0) = false := by simp; omega
theorem Zue (v : Val) (h : v.tot ≤ B) : ZgW (fun l => some (spL l)) (fun p => some (ZbW p)) Zy8 0 v = some (Zaw v.l) := by
  have he := v.tot_eq
  have hs := Zlp v.l
  unfold ZgW Zaw
  simp only [Option.bind_some]
  cases e : spL v.l with
  | nil => rfl
  | cons x r =>
    rw [e] at hs
    simp only [Zak] at hs
    have hs2 := Zlp r
    simp only [Zsn, Bool.not_false, cond_true, cond_false, ZvA, Option.bind_some, ZlQ]
    by_cases h1 : x.tok.k = 1
    · have e1 : (x.tok.k != 1) = false := by simpa using h1
      by_cases h2 : ZbW x.tok.t = true
      · rw [if_pos ⟨h1, h2⟩]
        simp only [e1, h2, Bool.not_false, Bool.not_true, cond_true, cond_false, Option.bind_some]
        cases e3 : spL r with
        | nil => rfl
        | cons y s =>
          rw [e3] at hs2
          simp only [Zak] at hs2
          simp only [Zsn, cond_false, ZvA, Option.bind_some, ZlQ, ZzW (show Zak s ≤ B by omega)]
          by_cases h4 : y.tok.k = 18
          · rw [if_pos h4, h4]; rfl
          · have e4 : (y.tok.k == 18) = false := by simpa using h4
            rw [if_neg h4, e4]; rfl
      · rw [if_neg (fun hh => h2 hh.2)]
        have h2' : ZbW x.tok.t = false := (Bool.not_eq_true _).mp h2
        simp only [e1, h2', Bool.not_false, cond_true, cond_false, Option.bind_some]
    · have e1 : (x.tok.k != 1) = true := by simpa using h1
      rw [if_neg (fun hh => h1 hh.1)]
      simp only [e1, Bool.not_true, cond_true, cond_false, Option.bind_some]
theorem Zrd {K : Zaa} (hK : ZcF K) : Zaj U (Zab C K) 56 ⟨true, [.ty 51], [9, 22, 4], Znh⟩ :=
  Zki (kf hK 56 (by decide)) _ _ _ (Zs1 hK) (ZsI hK) (Ydd hK) _ fun a r h => by
    unfold Znh at h
    split at h
    · rename_i h3; cases h; exact ⟨0, Zue a h3⟩
    · cases h
end Go.Tev.S1
namespace Go.Tev
open Go.Abs
abbrev V : Nat := 2 ^ 24
abbrev Lk := List UInt8 → Option (List Val)
theorem Zsj (v : Val) (r : List Val) : Zak r < Zak (v :: r) := by
  simp only [Zak, Val.tot_eq]; omega
theorem ZsT (v : Val) (r : List Val) : Zak v.l < Zak (v :: r) := by
  simp only [Zak, Val.tot_eq]; omega
theorem ZlU (v : Val) (r : List Val) : Zak (Zaw v.l).2.1 < Zak (v :: r) :=
  Nat.lt_of_le_of_lt (ZiE v.l) (ZsT v r)
def ZkE (a b : Option Nat) : Option Nat := match a, b with
  | some m, some n => some (m + n)
  | _, _ => none
theorem ZeA {a b : Option Nat} {n : Nat} (h : ZkE a b = some n) : ∃ x y, a = some x ∧ b = some y ∧ n = x + y := by
  unfold ZkE at h
  split at h
  · exact ⟨_, _, rfl, rfl, (Option.some.inj h).symm⟩
  · cases h
def Zey (lk : Lk) : List Val → Option Nat
  | [] => some 0
  | v :: r => ZkE (if v.ref then (match lk (Zaw v.l).1 with
      | some x => some (Zak x)
      | none => if (Zaw v.l).2.2 then Zey lk (Zaw v.l).2.1 else none)
    else ZkE (some (1 + v.tok.t.length + v.tok.u.length)) (Zey lk v.l)) (Zey lk r)
termination_by l => Zak l
decreasing_by
  · exact ZlU v r
  · exact ZsT v r
  · exact Zsj v r
def Zr0 (lk : Lk) (v : Val) : Option Nat := if v.ref then (match lk (Zaw v.l).1 with
      | some x => some (Zak x)
      | none => if (Zaw v.l).2.2 then Zey lk (Zaw v.l).2.1 else none)
    else ZkE (some (1 + v.tok.t.length + v.tok.u.length)) (Zey lk v.l)
theorem Zos {lk : Lk} {v : Val} (h : v.ref = false) : Zr0 lk v = ZkE (some (1 + v.tok.t.length + v.tok.u.length)) (Zey lk v.l) := by
  unfold Zr0; rw [if_neg (by rw [h]; decide)]
theorem Ztg {lk : Lk} {v : Val} {x : List Val} (h : v.ref = true) (h2 : lk (Zaw v.l).1 = some x) : Zr0 lk v = some (Zak x) := by
  unfold Zr0; rw [if_pos h, h2]
theorem ZsE {lk : Lk} {v : Val} (h : v.ref = true) (h2 : lk (Zaw v.l).1 = none) (h3 : (Zaw v.l).2.2 = true) : Zr0 lk v = Zey lk (Zaw v.l).2.1 := by
  unfold Zr0; rw [if_pos h, h2]; simp only [h3, if_true]
theorem ZtS {lk : Lk} {v : Val} (h : v.ref = true) (h2 : lk (Zaw v.l).1 = none) (h3 : (Zaw v.l).2.2 = false) : Zr0 lk v = none := by
  unfold Zr0; rw [if_pos h, h2]; simp [h3]
theorem Zdi (lk : Lk) : Zey lk [] = some 0 := by rw [Zey]
theorem ZcG (lk : Lk) (v : Val) (r : List Val) : Zey lk (v :: r) = ZkE (Zr0 lk v) (Zey lk r) := by rw [Zey]; rfl
theorem Zuu (a b c : Option Nat) : ZkE (ZkE a b) c = ZkE a (ZkE b c) := by
  cases a <;> cases b <;> cases c <;> simp [ZkE, Nat.add_assoc]
theorem Zvn (a : Option Nat) : ZkE (some 0) a = a := by cases a <;> simp [ZkE]
theorem ZuW (a : Option Nat) : ZkE a (some 0) = a := by cases a <;> simp [ZkE]
theorem ZhV (lk : Lk) (a b : List Val) : Zey lk (a ++ b) = ZkE (Zey lk a) (Zey lk b) := by
  induction a with
  | nil => rw [Zdi, Zvn]; rfl
  | cons v a ih => rw [List.cons_append, ZcG, ZcG, ih, Zuu]
theorem ZxC (lk : Lk) (a : List Val) (v : Val) : Zey lk (a ++ [v]) = ZkE (Zey lk a) (Zr0 lk v) := by
  rw [ZhV, ZcG, Zdi, ZuW]
def Zec (lk : Lk) : List Val → List Val
  | [] => []
  | v :: r => (if v.ref then (match lk (Zaw v.l).1 with
      | some x => x
      | none => Zec lk (Zaw v.l).2.1)
    else [Val.mk v.tok (Zec lk v.l)]) ++ Zec lk r
termination_by l => Zak l
decreasing_by
  · exact ZlU v r
  · exact ZsT v r
  · exact Zsj v r
def ZuK (lk : Lk) (v : Val) : List Val := if v.ref then (match lk (Zaw v.l).1 with
      | some x => x
      | none => Zec lk (Zaw v.l).2.1)
    else [Val.mk v.tok (Zec lk v.l)]
theorem Zsf {lk : Lk} {v : Val} (h : v.ref = false) : ZuK lk v = [Val.mk v.tok (Zec lk v.l)] := by
  unfold ZuK; rw [if_neg (by rw [h]; decide)]
theorem Zx2 {lk : Lk} {v : Val} {x : List Val} (h : v.ref = true) (h2 : lk (Zaw v.l).1 = some x) : ZuK lk v = x := by
  unfold ZuK; rw [if_pos h, h2]
theorem Zyg {lk : Lk} {v : Val} (h : v.ref = true) (h2 : lk (Zaw v.l).1 = none) : ZuK lk v = Zec lk (Zaw v.l).2.1 := by
  unfold ZuK; rw [if_pos h, h2]
theorem Ze6 (lk : Lk) : Zec lk [] = [] := by rw [Zec]
theorem Zd1 (lk : Lk) (v : Val) (r : List Val) : Zec lk (v :: r) = ZuK lk v ++ Zec lk r := by rw [Zec]; rfl
theorem Zre (lk : Lk) (a b : List Val) : Zec lk (a ++ b) = Zec lk a ++ Zec lk b := by
  induction a with
  | nil => rw [Ze6]; rfl
  | cons v a ih => rw [List.cons_append, Zd1, Zd1, ih, List.append_assoc]
theorem ZqC (lk : Lk) (a : List Val) (v : Val) : Zec lk (a ++ [v]) = Zec lk a ++ ZuK lk v := by
  rw [Zre, Zd1, Ze6, List.append_nil]
theorem Zg0 (P : List Val → Prop) (h0 : P []) (h1 : ∀ v r, P r → P v.l → P (Zaw v.l).2.1 → P (v :: r)) : ∀ l, P l := by
  have : ∀ (n : Nat) l, Zak l < n → P l := by
    intro n
    induction n with
    | zero => intro l h; omega
    | succ n ih =>
      intro l h
      cases l with
      | nil => exact h0
      | cons v r =>
        have a1 := Zsj v r
        have a2 := ZsT v r
        have a3 := ZlU v r
        exact h1 v r (ih _ (by omega)) (ih _ (by omega)) (ih _ (by omega))
  exact fun l => this _ l (Nat.lt_succ_self _)
theorem Zwv (lk : Lk) : ∀ l m, Zey lk l = some m → Zak (Zec lk l) = m := by
  refine Zg0 _ ?_ ?_
  · intro m h
    rw [Zdi] at h
    cases h
    rw [Ze6]; rfl
  · intro v r h1 h2 h3 m h
    rw [ZcG] at h
    obtain ⟨x, y, hx, hy, rfl⟩ := ZeA h
    rw [Zd1, Zev, h1 y hy]
    congr 1
    unfold Zr0 at hx
    unfold ZuK
    split at hx
    · rename_i hv
      rw [if_pos hv]
      split at hx
      · rename_i z hz
        exact Option.some.inj hx
      · rename_i hz
        split at hx
        · exact h3 x hx
        · cases hx
    · rename_i hv
      rw [if_neg hv]
      obtain ⟨a, b, ha, hb, rfl⟩ := ZeA hx
      cases ha
      simp only [Zak, Val.tot, h2 b hb]
      rfl
theorem YcZ (lk : Lk) (W : Nat) (hW : 1 ≤ W) (hlk : ∀ n x, lk n = some x → Zak x ≤ W) : ∀ l m, Zey lk l = some m → m ≤ Zak l * W := by
  refine Zg0 _ ?_ ?_
  · intro m h
    rw [Zdi] at h
    cases h
    omega
  · intro v r h1 h2 h3 m h
    rw [ZcG] at h
    obtain ⟨x, y, hx, hy, rfl⟩ := ZeA h
    have hr := h1 y hy
    simp only [Zak, Nat.add_mul]
    suffices x ≤ v.tot * W by omega
    have ht : 1 * W ≤ v.tot * W := Nat.mul_le_mul_right _ (by rw [Val.tot_eq]; omega)
    unfold Zr0 at hx
    split at hx
    · split at hx
      · rename_i z hz
        have := hlk _ _ hz
        cases hx
        omega
      · split at hx
        · have h4 := h3 x hx
          have h5 : Zak (Zaw v.l).2.1 * W ≤ v.tot * W := Nat.mul_le_mul_right _ (by have := ZiE v.l; rw [Val.tot_eq]; omega)
          omega
        · cases hx
    · obtain ⟨a, b, ha, hb, rfl⟩ := ZeA hx
      cases ha
      have h4 := h2 b hb
      rw [Val.tot_eq, Nat.add_mul (1 + v.tok.t.length + v.tok.u.length)]
      have h5 : (1 + v.tok.t.length + v.tok.u.length) * 1 ≤ (1 + v.tok.t.length + v.tok.u.length) * W := Nat.mul_le_mul_left _ hW
      omega
theorem ZtC (lk : Lk) : ∀ l, Zbd l = false → Zec lk l = l := by
  refine Zg0 _ ?_ ?_
  · intro h; exact Ze6 lk
  · intro v r h1 h2 h3 h
    rw [Zbd, Bool.or_eq_false_iff, Val.hasv_eq, Bool.or_eq_false_iff] at h
    rw [Zd1, h1 h.2, ZuK, if_neg (by rw [h.1.1]; decide), h2 h.1.2, Val.eta]
    rfl
theorem Znw (lk : Lk) : ∀ l, Zbd l = false → Zey lk l = some (Zak l) := by
  refine Zg0 _ ?_ ?_
  · intro h; exact Zdi lk
  · intro v r h1 h2 h3 h
    rw [Zbd, Bool.or_eq_false_iff, Val.hasv_eq, Bool.or_eq_false_iff] at h
    rw [ZcG, h1 h.2, Zr0, if_neg (by rw [h.1.1]; decide), h2 h.1.2]
    simp only [ZkE, Zak, Val.tot_eq]
def lkM (m : List (List UInt8 × List Val)) : Lk := fun n => Za4 BEq.beq n m
def lkC : List Cus → Lk
  | [], _ => none
  | c :: r, n => if c.name == n then some c.val else lkC r n
def ZcE : List Cus → List UInt8 → Int → Int
  | [], _, _ => -1
  | c :: r, n, i => if c.name == n then i else ZcE r n (i + 1)
theorem ZvH {m : List (List UInt8 × List Val)} {n : List UInt8} {x : List Val} (h : lkM m n = some x) : ∃ p ∈ m, p.2 = x := by
  induction m with
  | nil => cases h
  | cons p m ih =>
    obtain ⟨k, v⟩ := p
    simp only [lkM, Za4] at h
    cases e : (n == k) <;> rw [e] at h
    · obtain ⟨q, hq, hx⟩ := ih h
      exact ⟨q, List.mem_cons_of_mem _ hq, hx⟩
    · cases h
      exact ⟨_, List.mem_cons_self, rfl⟩
theorem Zui (c : List Cus) (n : List UInt8) : ∀ (i : Nat), (ZcE c n i = -1 ∧ lkC c n = none) ∨ (∃ j x, ZcE c n i = ((i + j : Nat) : Int) ∧ c[j]? = some x ∧ lkC c n = some x.val) := by
  induction c with
  | nil => intro i; exact .inl ⟨rfl, rfl⟩
  | cons p c ih =>
    intro i
    simp only [ZcE, lkC]
    by_cases h : (p.name == n) = true
    · rw [if_pos h, if_pos h]
      exact .inr ⟨0, p, rfl, rfl, rfl⟩
    · rw [if_neg h, if_neg h]
      rcases ih (i + 1) with ⟨h1, h2⟩ | ⟨j, x, h1, h2, h3⟩
      · exact .inl ⟨h1, h2⟩
      · refine .inr ⟨j + 1, x, ?_, h2, h3⟩
        have : (i : Int) + 1 = ((i + 1 : Nat) : Int) := rfl
        rw [this, h1]
        omega
end Go.Tev
namespace Go.Tev
open Go.Abs
section
variable {x : Cx} {ρ : List Rf} {h0 : Base} {s : TSt x.X} {a : St}
def LawP (x : Cx) (h0 : Base) (call : Zaa) (fa : FA) (n m : Nat) (c : Code) {R : Type} (L : YcI x.U R) : Prop := ∀ (k : TOut x.X → Option R) (s : TSt x.X) (z : R), s.tmp = [] → L k s = some z → ∀ e0 ρ a, (∀ t, (Zad s.env t).isSome = true → (Zad e0 t).isSome = true) → Rel x.U ρ h0 s a →
  ∃ o' o σ, k o' = some z ∧ iter (evQ x.C call fa n c) e0 m a = some o ∧ TORel x σ h0 o' o
end
section
variable {C : Ctx} {call : Zaa} {fa : FA}
theorem Zk9 {f : St → Option Out} {e0 : List (Nat × SV)} : ∀ (m : Nat) (st : St) (o : Out), iter f e0 m st = some o → iter f e0 (m + 1) st = some o
  | 0, st, o, h => by cases h
  | m + 1, st, o, h => by
    rw [iter] at h ⊢
    split at h
    · exact Zk9 m _ o h
    · exact h
theorem Zsz (n : Nat) : ∀ (c : Code) (st : St) (o : Out), evQ C call fa n c st = some o → evQ C call fa (n + 1) c st = some o := by
  intro c
  induction c with
  | seq p q ihp ihq =>
    intro st o h
    simp only [evQ] at h ⊢
    split at h
    · rename_i st' hs
      rw [ihp _ _ hs]
      exact ihq _ _ h
    · rename_i r hn
      rw [ihp _ _ h]
      split
      · rename_i st' hs
        cases hs
        exact absurd h (hn st')
      · rfl
  | cond c p q ihp ihq =>
    intro st o h
    simp only [evQ] at h ⊢
    split at h
    · rename_i t ht
      cases t with
      | true => exact ihp _ _ h
      | false => exact ihq _ _ h
    · cases h
  | block i c ih =>
    intro st o h
    simp only [evQ] at h ⊢
    cases hq : evQ C call fa n c st with
    | none => rw [hq] at h; cases h
    | some o1 =>
      rw [hq] at h
      rw [ih _ _ hq]
      exact h
  | loop c ih =>
    intro st o h
    simp only [evQ] at h ⊢
    exact Zk9 _ _ _ (Zi1 (fun st o hh => ih st o hh) _ _ _ h)
  | _ => intro st o h; exact h
end
section
variable {x : Cx} {h0 : Base}
theorem LawP.succ {call : Zaa} {fa : FA} {n m : Nat} {c : Code} {R : Type} {L : YcI x.U R} (h : LawP x h0 call fa n m c L) : LawP x h0 call fa (n + 1) m c L := fun k s z ht hz e0 ρ a hc r => by
  obtain ⟨o', o, σ, h1, h2, h3⟩ := h k s z ht hz e0 ρ a hc r
  exact ⟨o', o, σ, h1, Zi1 (fun st o hh => Zsz n c st o hh) _ _ _ h2, h3⟩
theorem Law.succ {call : Zaa} {fa : FA} {n : Nat} {c : Code} {R : Type} {L : YcI x.U R} (h : Law x h0 call fa n c L) : Law x h0 call fa (n + 1) c L := fun k s z ht hz ρ a r => by
  obtain ⟨o', o, σ, h1, h2, h3⟩ := h k s z ht hz ρ a r
  exact ⟨o', o, σ, h1, Zk9 _ _ _ (Zi1 (fun st o hh => Zsz n c st o hh) _ _ _ h2), h3⟩
end
end Go.Tev
namespace Go.Tev.S1
open Go.Abs Go.Proofs
abbrev T3a : Type := Val → Option Bool
abbrev T3b : Type := Val → Option ((List UInt8) × (List Val) × Bool)
abbrev T3c : Type := (List Val) → ((List ((List UInt8) × Bool)) × Unit) → Option ((Unit) × ((List ((List UInt8) × Bool)) × Unit))
abbrev T3d : Type := List ((List UInt8) × Bool)
abbrev T3e : Type := (List Val) × (List ((List UInt8) × (List Val))) → Option Int
abbrev T3f : Type := (List Val) → Option Int
abbrev T3g : Type := (List Val) × (List ((List UInt8) × (List Val))) → Option (List Val)
abbrev T3h : Type := (List Val) → Option Bool
abbrev P3a (K : Zaa) (t : T3a) : Prop := Zaj U (Zab C K) 55 ⟨true, [.ty 51], [4], t⟩
abbrev P3b (K : Zaa) (t : T3b) : Prop := Zaj U (Zab C K) 56 ⟨true, [.ty 51], [9, 22, 4], t⟩
abbrev P3c (K : Zaa) (t : T3e) : Prop := Zaj U (Zab C K) 53 ⟨true, [.ty 22, .ty 60], [3], t⟩
abbrev P3d (K : Zaa) (t : T3f) : Prop := Zaj U (Zab C K) 44 ⟨true, [.ty 22], [3], t⟩
abbrev P3e (K : Zaa) (t : T3g) : Prop := Zaj U (Zab C K) 54 ⟨true, [.ty 22, .ty 60], [22], t⟩
abbrev P3f (K : Zaa) (t : T3h) : Prop := Zaj U (Zab C K) 14 ⟨true, [.ty 22], [4], t⟩
abbrev P3g (K : Zaa) (t : T3f) : Prop := Zaj U (Zab C K) 33 ⟨true, [.ty 22], [28], t⟩
def Zdu (qa : T3a) (qb : T3b) (qc : T3c) {R : Type} (n : Nat) (_ : Unit) (a9 : List Val) (a10 : Int) (kx0 : (List ((List UInt8) × Bool)) → Option R) (y11 : Int) (h1 : List ((List UInt8) × Bool)) (k : Int → (List ((List UInt8) × Bool)) → Option R) : Option R :=
  cond (decide (y11 < a10))
  (Option.bind (ZeC a9 y11) fun x2 =>
  Option.bind (qa (Val.mk x2.tok x2.l)) fun r3 =>
  Option.bind (cond r3 (qb (Val.mk x2.tok x2.l)) (some ([], [], false))) fun r4 =>
  Option.bind (some (cond (r4.1 != []) x2.tok.k x2.tok.k)) fun m5 =>
  Option.bind (some (cond (r4.1 != []) x2.tok.t x2.tok.t)) fun m6 =>
  Option.bind (some (cond (r4.1 != []) x2.tok.n x2.tok.n)) fun m7 =>
  Option.bind (some (cond (r4.1 != []) x2.tok.u x2.tok.u)) fun m8 =>
  Option.bind (some (cond (r4.1 != []) x2.tok.f x2.tok.f)) fun m9 =>
  Option.bind (some (cond (r4.1 != []) x2.l x2.l)) fun m10 =>
  Option.bind (some (cond (r4.1 != []) (ZkA BEq.beq r4.1 true h1) h1)) fun m11 =>
  Option.bind (some (cond r3 m5 x2.tok.k)) fun m12 =>
  Option.bind (some (cond r3 m6 x2.tok.t)) fun m13 =>
  Option.bind (some (cond r3 m7 x2.tok.n)) fun m14 =>
  Option.bind (some (cond r3 m8 x2.tok.u)) fun m15 =>
  Option.bind (some (cond r3 m9 x2.tok.f)) fun m16 =>
  Option.bind (some (cond r3 m10 x2.l)) fun m17 =>
  Option.bind (some (cond r3 m11 h1)) fun m18 =>
  Option.bind (qc m17 (m18, ())) fun w19 =>
  k (IntKind.i64.wrap (y11 + (1 : Int))) w19.2.1)
  (kx0 h1)
def Ze1 (qa : T3a) (qb : T3b) (qc : T3c) (n : Nat) (p0 : List Val) (q1 : T3d) : Option ((Unit) × ((List ((List UInt8) × Bool)) × Unit)) :=
  Zgp (Zdu qa qb qc n () p0 (p0.length : Int) (fun z1 =>
  some ((), (z1, ())))) n (0 : Int) q1
abbrev Zmr (qa : T3a) (qb : T3b) (qc : T3c) : List (Nat × TCall X) := [(55, ⟨true, [.ty 51], [4], qa⟩), (56, ⟨true, [.ty 51], [9, 22, 4], qb⟩)]
noncomputable abbrev ZbO (qa : T3a) (qb : T3b) (qc : T3c) : Cx := ⟨C, U, Zmr qa qb qc, [(36, ⟨[.ty 22, .ref (.map 9 4)], [], qc⟩)], fun _ => []⟩
theorem ZkV : okF (C.ann 36) Tryz.f36 2 = true := by kernel_rfl
abbrev vars_collect_L0_D : LD := ⟨1, [.mp 1 0, .val 9 22, .val 10 2], [.val 11 2, .hmap 9 4], [(0, [.hmap 9 4])], []⟩
abbrev Zct (qa : T3a) (qb : T3b) (qc : T3c) (n : Nat) : LG U (PX X [] × PR' X (AR.refs [.ty 22, .ref (.map 9 4)])) vars_collect_L0_D := fun c kx kr y k => Zdu qa qb qc n c.1 c.2.1 c.2.2.1 (fun z0 => kx 0 (z0, ())) y.1 y.2.1 (fun z0 z1 => k (z0, z1, ()))
noncomputable abbrev Zcz (qa : T3a) (qb : T3b) (qc : T3c) (n : Nat) : Ze9 (ZbO qa qb qc) (PX X [] × PR' X (AR.refs [.ty 22, .ref (.map 9 4)])) := [(0, ZfA U vars_collect_L0_D (Zct qa qb qc n) n)]
theorem Zje (qa : T3a) (qb : T3b) (qc : T3c) (n : Nat) : ∀ c kx kr y k1, evL (ZbO qa qb qc) (ann 36) (Zcz qa qb qc n) 0 (Zat (Zac Tryz.f36) 0) (ZeN U vars_collect_L0_D kx kr k1) (encS U vars_collect_L0_D.cap vars_collect_L0_D.din c y) = Zct qa qb qc n c (fun i z => kx i c z) kr y (fun y2 => k1 c y2) := by
  intro c kx kr y k1
  kernel_rfl
theorem Zmy (qa : T3a) (qb : T3b) (qc : T3c) (n : Nat) : ∀ a cs, fnR (ZbO qa qb qc) 36 Tryz.f36 [.ty 22, .ref (.map 9 4)] [] (Zcz qa qb qc n) a cs = Ze1 qa qb qc n a cs.1 := by
  intro a cs
  kernel_rfl
theorem Zgx {K : Zaa} (qa : T3a) (qb : T3b) (qc : T3c) (h0 : P3a K qa) (h1 : P3b K qb) (g0 : ZdZ U (Zab C K) 36 ⟨[.ty 22, .ref (.map 9 4)], [], qc⟩) : CallsOk (ZbO qa qb qc) (Zab C K) :=
  ⟨(Zag h0 (Zag h1 ZaB)), (Zwg g0 ZaC)⟩
theorem Zh0 {K : Zaa} (qa : T3a) (qb : T3b) (qc : T3c) (h0 : P3a K qa) (h1 : P3b K qb) (g0 : ZdZ U (Zab C K) 36 ⟨[.ty 22, .ref (.map 9 4)], [], qc⟩) (n : Nat) (b0 : Base) (bn0 : b0.nr ≤ 1) : Law (ZbO qa qb qc) b0 (Zab C K) (ann 36) n (Zat (Zac Tryz.f36) 0) (ZfA U vars_collect_L0_D (Zct qa qb qc n) n) :=
  ZdA (x := ZbO qa qb qc) (id := 0) ok (Zgx qa qb qc h0 h1 g0) (sums := Zcz qa qb qc n) (Zau (show Zaq 0 (Zat (Zac Tryz.f36) 0) = [] by kernel_rfl)) vars_collect_L0_D bn0 (Zct qa qb qc n) (Zje qa qb qc n)
theorem Zig {K : Zaa} (hK : ∀ args h, K 36 args h = none) (qa : T3a) (qb : T3b) (qc : T3c) (h0 : P3a K qa) (h1 : P3b K qb) (g0 : ZdZ U (Zab C K) 36 ⟨[.ty 22, .ref (.map 9 4)], [], qc⟩) (t : PX X (AR.tys [.ty 22, .ref (.map 9 4)]) → PR' X (AR.refs [.ty 22, .ref (.map 9 4)]) → Option (PX X [] × PR' X (AR.refs [.ty 22, .ref (.map 9 4)]))) (h : ∀ a cs r, t a cs = some r → ∃ n, Ze1 qa qb qc n a cs.1 = some r) : ZdZ U (Zab C K) 36 ⟨[.ty 22, .ref (.map 9 4)], [], t⟩ := by
  refine Zwc (x := ZbO qa qb qc) (ak := [.ty 22, .ref (.map 9 4)]) (rts := []) ok (Zgx qa qb qc h0 h1 g0) hK Tryz.func36 ZkV fun a cs r hr => ?_
  obtain ⟨n, hn⟩ := h a cs r hr
  exact ⟨n, Zcz qa qb qc n, fun b0 bn0 => (Zby (ids := [0]) (by kernel_rfl) (by decide) (fun i hi => by
    simp only [List.mem_cons, List.not_mem_nil, or_false] at hi
    rcases hi with rfl
    · exact Zbw (c2 := Zat (Zac Tryz.f36) 0) (by kernel_rfl) (by kernel_rfl) (Zh0 qa qb qc h0 h1 g0 _ b0 bn0)
    )), (Zmy qa qb qc n a cs).trans hn⟩
def Zdf (qa : T3a) (qd : T3e) (qb : T3b) (qe : T3f) {R : Type} (n : Nat) (a1 : List ((List UInt8) × (List Val))) (a14 : List Val) (a15 : Int) (kx0 : Int → Int → Option R) (kr : Int → Option R) (y4 : Int) (y5 : Int) (y16 : Int) (k : Int → Int → Int → Option R) : Option R :=
  cond (decide (y16 < a15))
  (Option.bind (ZeC a14 y16) fun x4 =>
  Option.bind (qa (Val.mk x4.tok x4.l)) fun r5 =>
  Option.bind (cond (!r5) (qd (x4.l, a1)) (some (0 : Int))) fun r6 =>
  Option.bind (cond (!(!r5)) (qb (Val.mk x4.tok x4.l)) (some ([], [], false))) fun r7 =>
  Option.bind (cond ((!(!r5)) && ((Za4 BEq.beq r7.1 a1).isSome)) (qe (Zkd [] (Za4 BEq.beq r7.1 a1))) (some (0 : Int))) fun r8 =>
  Option.bind (cond (((!(!r5)) && (!((Za4 BEq.beq r7.1 a1).isSome))) && r7.2.2) (qd (r7.2.1, a1)) (some (0 : Int))) fun r9 =>
  Option.bind (some (cond r7.2.2 x4.tok.k x4.tok.k)) fun m10 =>
  Option.bind (some (cond r7.2.2 x4.tok.t x4.tok.t)) fun m11 =>
  Option.bind (some (cond r7.2.2 x4.tok.n x4.tok.n)) fun m12 =>
  Option.bind (some (cond r7.2.2 x4.tok.u x4.tok.u)) fun m13 =>
  Option.bind (some (cond r7.2.2 x4.tok.f x4.tok.f)) fun m14 =>
  Option.bind (some (cond r7.2.2 x4.l x4.l)) fun m15 =>
  Option.bind (some (cond r7.2.2 r9 (-1 : Int))) fun m16 =>
  Option.bind (some (cond ((Za4 BEq.beq r7.1 a1).isSome) x4.tok.k m10)) fun m17 =>
  Option.bind (some (cond ((Za4 BEq.beq r7.1 a1).isSome) x4.tok.t m11)) fun m18 =>
  Option.bind (some (cond ((Za4 BEq.beq r7.1 a1).isSome) x4.tok.n m12)) fun m19 =>
  Option.bind (some (cond ((Za4 BEq.beq r7.1 a1).isSome) x4.tok.u m13)) fun m20 =>
  Option.bind (some (cond ((Za4 BEq.beq r7.1 a1).isSome) x4.tok.f m14)) fun m21 =>
  Option.bind (some (cond ((Za4 BEq.beq r7.1 a1).isSome) x4.l m15)) fun m22 =>
  Option.bind (some (cond ((Za4 BEq.beq r7.1 a1).isSome) r8 m16)) fun m23 =>
  Option.bind (some (cond (!r5) (IntKind.i64.wrap (y5 + (IntKind.i64.wrap ((IntKind.i64.wrap ((1 : Int) + (x4.tok.t.length : Int))) + (x4.tok.u.length : Int))))) y5)) fun m24 =>
  Option.bind (some (cond (!r5) x4.tok.k m17)) fun m25 =>
  Option.bind (some (cond (!r5) x4.tok.t m18)) fun m26 =>
  Option.bind (some (cond (!r5) x4.tok.n m19)) fun m27 =>
  Option.bind (some (cond (!r5) x4.tok.u m20)) fun m28 =>
  Option.bind (some (cond (!r5) x4.tok.f m21)) fun m29 =>
  Option.bind (some (cond (!r5) x4.l m22)) fun m30 =>
  Option.bind (some (cond (!r5) r6 m23)) fun m31 =>
  cond (decide (m31 < (0 : Int)))
  (kr (-1 : Int))
  (k y4 (IntKind.i64.wrap (m24 + m31)) (IntKind.i64.wrap (y16 + (1 : Int)))))
  (kx0 y4 y5)
def Ze4 (qa : T3a) (qd : T3e) (qb : T3b) (qe : T3f) (n : Nat) (p0 : List Val) (p1 : List ((List UInt8) × (List Val))) : Option Int :=
  ZoG (Zdf qa qd qb qe n p1 p0 (p0.length : Int) (fun z1 z2 =>
  some z2) (fun z3 =>
  some z3)) n (0 : Int) (0 : Int) (0 : Int)
abbrev ZmE (qa : T3a) (qd : T3e) (qb : T3b) (qe : T3f) : List (Nat × TCall X) := [(55, ⟨true, [.ty 51], [4], qa⟩), (53, ⟨true, [.ty 22, .ty 60], [3], qd⟩), (56, ⟨true, [.ty 51], [9, 22, 4], qb⟩), (44, ⟨true, [.ty 22], [3], qe⟩)]
noncomputable abbrev ZbL (qa : T3a) (qd : T3e) (qb : T3b) (qe : T3f) : Cx := ⟨C, U, ZmE qa qd qb qe, [], fun _ => []⟩
theorem Zl3 : okF (C.ann 53) Tryz.f53 2 = true := by kernel_rfl
abbrev vars_measure_L0_D : LD := ⟨0, [.val 1 60, .val 14 22, .val 15 2], [.val 4 2, .val 5 2, .val 16 2], [(0, [.val 4 2, .val 5 2])], [.val 4 3]⟩
abbrev Zcv (qa : T3a) (qd : T3e) (qb : T3b) (qe : T3f) (n : Nat) : LG U (PX X [3]) vars_measure_L0_D := fun c kx kr y k => Zdf qa qd qb qe n c.1 c.2.1 c.2.2.1 (fun z0 z1 => kx 0 (z0, z1, ())) (fun z0 => kr (z0, ())) y.1 y.2.1 y.2.2.1 (fun z0 z1 z2 => k (z0, z1, z2, ()))
noncomputable abbrev Zcy (qa : T3a) (qd : T3e) (qb : T3b) (qe : T3f) (n : Nat) : Ze9 (ZbL qa qd qb qe) (PX X [3]) := [(0, ZfA U vars_measure_L0_D (Zcv qa qd qb qe n) n)]
theorem Zjq (qa : T3a) (qd : T3e) (qb : T3b) (qe : T3f) (n : Nat) : ∀ c kx kr y k1, evL (ZbL qa qd qb qe) (ann 53) (Zcy qa qd qb qe n) 0 (Zat (Zac Tryz.f53) 0) (ZeN U vars_measure_L0_D kx kr k1) (encS U vars_measure_L0_D.cap vars_measure_L0_D.din c y) = Zcv qa qd qb qe n c (fun i z => kx i c z) kr y (fun y2 => k1 c y2) := by
  intro c kx kr y k1
  kernel_rfl
theorem Zmw (qa : T3a) (qd : T3e) (qb : T3b) (qe : T3f) (n : Nat) : ∀ a, fnL (ZbL qa qd qb qe) true 53 Tryz.f53 [.ty 22, .ty 60] [3] (Zcy qa qd qb qe n) a = Ze4 qa qd qb qe n a.1 a.2 := by
  intro a
  kernel_rfl
theorem ZgO {K : Zaa} (qa : T3a) (qd : T3e) (qb : T3b) (qe : T3f) (h0 : P3a K qa) (h1 : P3c K qd) (h2 : P3b K qb) (h3 : P3d K qe) : CallsOk (ZbL qa qd qb qe) (Zab C K) :=
  ⟨(Zag h0 (Zag h1 (Zag h2 (Zag h3 ZaB)))), ZaC⟩
theorem ZhI {K : Zaa} (qa : T3a) (qd : T3e) (qb : T3b) (qe : T3f) (h0 : P3a K qa) (h1 : P3c K qd) (h2 : P3b K qb) (h3 : P3d K qe) (n : Nat) (b0 : Base) (bn0 : b0.nr ≤ 0) : Law (ZbL qa qd qb qe) b0 (Zab C K) (ann 53) n (Zat (Zac Tryz.f53) 0) (ZfA U vars_measure_L0_D (Zcv qa qd qb qe n) n) :=
  ZdA (x := ZbL qa qd qb qe) (id := 0) ok (ZgO qa qd qb qe h0 h1 h2 h3) (sums := Zcy qa qd qb qe n) (Zau (show Zaq 0 (Zat (Zac Tryz.f53) 0) = [] by kernel_rfl)) vars_measure_L0_D bn0 (Zcv qa qd qb qe n) (Zjq qa qd qb qe n)
theorem Ziq {K : Zaa} (hK : ∀ args h, K 53 args h = none) (qa : T3a) (qd : T3e) (qb : T3b) (qe : T3f) (h0 : P3a K qa) (h1 : P3c K qd) (h2 : P3b K qb) (h3 : P3d K qe) (t : PX X (AK.tys [.ty 22, .ty 60]) → Option (PX X [3])) (h : ∀ a r, t a = some r → ∃ n, Ze4 qa qd qb qe n a.1 a.2 = some r) : Zaj U (Zab C K) 53 ⟨true, [.ty 22, .ty 60], [3], t⟩ := by
  refine Zav (x := ZbL qa qd qb qe) (ak := [.ty 22, .ty 60]) (rts := [3]) (dir := true) ok (ZgO qa qd qb qe h0 h1 h2 h3) hK Tryz.func53 Zl3 fun a r hr => ?_
  obtain ⟨n, hn⟩ := h a r hr
  exact ⟨n, Zcy qa qd qb qe n, (Zby (ids := [0]) (by kernel_rfl) (by decide) (fun i hi => by
    simp only [List.mem_cons, List.not_mem_nil, or_false] at hi
    rcases hi with rfl
    · exact Zbw (c2 := Zat (Zac Tryz.f53) 0) (by kernel_rfl) (by kernel_rfl) (ZhI qa qd qb qe h0 h1 h2 h3 _ _ (Nat.le_refl _))
    )), (Zmw qa qd qb qe n a).trans hn⟩
def ZfQ (qa : T3a) (qf : T3g) (qb : T3b) {R : Type} (n : Nat) (a1 : List ((List UInt8) × (List Val))) (a4 : List Val) (a13 : List Val) (a14 : Int) (kx0 : List Val → Option R) (y5 : List Val) (y15 : Int) (k : List Val → Int → Option R) : Option R :=
  cond (decide (y15 < a14))
  (Option.bind (ZeC a13 y15) fun x2 =>
  Option.bind (qa (Val.mk x2.tok x2.l)) fun r3 =>
  cond (!r3)
  (Option.bind (qf (x2.l, a1)) fun r4 =>
  Option.bind (Option.bind (room 80 (y5.length + [(Val.mk x2.tok r4)].length)) (fun _ => some (y5 ++ [(Val.mk x2.tok r4)]))) fun o5 =>
  k o5 (IntKind.i64.wrap (y15 + (1 : Int))))
  (Option.bind (qb (Val.mk x2.tok x2.l)) fun r6 =>
  Option.bind (some (cond ((Za4 BEq.beq r6.1 a1).isSome) y5 y5)) fun m7 =>
  Option.bind (some (cond ((Za4 BEq.beq r6.1 a1).isSome) x2.tok.k x2.tok.k)) fun m8 =>
  Option.bind (some (cond ((Za4 BEq.beq r6.1 a1).isSome) x2.tok.t x2.tok.t)) fun m9 =>
  Option.bind (some (cond ((Za4 BEq.beq r6.1 a1).isSome) x2.tok.n x2.tok.n)) fun m10 =>
  Option.bind (some (cond ((Za4 BEq.beq r6.1 a1).isSome) x2.tok.u x2.tok.u)) fun m11 =>
  Option.bind (some (cond ((Za4 BEq.beq r6.1 a1).isSome) x2.tok.f x2.tok.f)) fun m12 =>
  Option.bind (some (cond ((Za4 BEq.beq r6.1 a1).isSome) x2.l x2.l)) fun m13 =>
  Option.bind (some (cond ((Za4 BEq.beq r6.1 a1).isSome) (Zkd [] (Za4 BEq.beq r6.1 a1)) r6.2.1)) fun m14 =>
  Option.bind (qf (m14, a1)) fun r15 =>
  Option.bind (Option.bind (room 80 (m7.length + r15.length)) (fun _ => some (m7 ++ r15))) fun o16 =>
  k o16 (IntKind.i64.wrap (y15 + (1 : Int)))))
  (kx0 y5)
def ZkF (qa : T3a) (qf : T3g) (qb : T3b) (n : Nat) (p0 : List Val) (p1 : List ((List UInt8) × (List Val))) : Option (List Val) :=
  Zgp (ZfQ qa qf qb n p1 [] p0 (p0.length : Int) (fun z1 =>
  some z1)) n [] (0 : Int)
abbrev ZtZ (qa : T3a) (qf : T3g) (qb : T3b) : List (Nat × TCall X) := [(55, ⟨true, [.ty 51], [4], qa⟩), (54, ⟨true, [.ty 22, .ty 60], [22], qf⟩), (56, ⟨true, [.ty 51], [9, 22, 4], qb⟩)]
noncomputable abbrev ZdE (qa : T3a) (qf : T3g) (qb : T3b) : Cx := ⟨C, U, ZtZ qa qf qb, [], fun _ => []⟩
theorem Zr2 : okF (C.ann 54) Tryz.f54 2 = true := by kernel_rfl
abbrev vars_put_L0_D : LD := ⟨0, [.val 1 60, .val 4 22, .val 13 22, .val 14 2], [.own 5 51, .val 15 2], [(0, [.own 5 51])], []⟩
abbrev Zeg (qa : T3a) (qf : T3g) (qb : T3b) (n : Nat) : LG U (PX X [22]) vars_put_L0_D := fun c kx kr y k => ZfQ qa qf qb n c.1 c.2.1 c.2.2.1 c.2.2.2.1 (fun z0 => kx 0 (z0, ())) y.1 y.2.1 (fun z0 z1 => k (z0, z1, ()))
noncomputable abbrev Zek (qa : T3a) (qf : T3g) (qb : T3b) (n : Nat) : Ze9 (ZdE qa qf qb) (PX X [22]) := [(0, ZfA U vars_put_L0_D (Zeg qa qf qb n) n)]
theorem ZnV (qa : T3a) (qf : T3g) (qb : T3b) (n : Nat) : ∀ c kx kr y k1, evL (ZdE qa qf qb) (ann 54) (Zek qa qf qb n) 0 (Zat (Zac Tryz.f54) 0) (ZeN U vars_put_L0_D kx kr k1) (encS U vars_put_L0_D.cap vars_put_L0_D.din c y) = Zeg qa qf qb n c (fun i z => kx i c z) kr y (fun y2 => k1 c y2) := by
  intro c kx kr y k1
  kernel_rfl
theorem ZuG (qa : T3a) (qf : T3g) (qb : T3b) (n : Nat) : ∀ a, fnL (ZdE qa qf qb) true 54 Tryz.f54 [.ty 22, .ty 60] [22] (Zek qa qf qb n) a = ZkF qa qf qb n a.1 a.2 := by
  intro a
  kernel_rfl
theorem ZkU {K : Zaa} (qa : T3a) (qf : T3g) (qb : T3b) (h0 : P3a K qa) (h1 : P3e K qf) (h2 : P3b K qb) : CallsOk (ZdE qa qf qb) (Zab C K) :=
  ⟨(Zag h0 (Zag h1 (Zag h2 ZaB))), ZaC⟩
theorem ZlS {K : Zaa} (qa : T3a) (qf : T3g) (qb : T3b) (h0 : P3a K qa) (h1 : P3e K qf) (h2 : P3b K qb) (n : Nat) (b0 : Base) (bn0 : b0.nr ≤ 0) : Law (ZdE qa qf qb) b0 (Zab C K) (ann 54) n (Zat (Zac Tryz.f54) 0) (ZfA U vars_put_L0_D (Zeg qa qf qb n) n) :=
  ZdA (x := ZdE qa qf qb) (id := 0) ok (ZkU qa qf qb h0 h1 h2) (sums := Zek qa qf qb n) (Zau (show Zaq 0 (Zat (Zac Tryz.f54) 0) = [] by kernel_rfl)) vars_put_L0_D bn0 (Zeg qa qf qb n) (ZnV qa qf qb n)
theorem Zl5 {K : Zaa} (hK : ∀ args h, K 54 args h = none) (qa : T3a) (qf : T3g) (qb : T3b) (h0 : P3a K qa) (h1 : P3e K qf) (h2 : P3b K qb) (t : PX X (AK.tys [.ty 22, .ty 60]) → Option (PX X [22])) (h : ∀ a r, t a = some r → ∃ n, ZkF qa qf qb n a.1 a.2 = some r) : Zaj U (Zab C K) 54 ⟨true, [.ty 22, .ty 60], [22], t⟩ := by
  refine Zav (x := ZdE qa qf qb) (ak := [.ty 22, .ty 60]) (rts := [22]) (dir := true) ok (ZkU qa qf qb h0 h1 h2) hK Tryz.func54 Zr2 fun a r hr => ?_
  obtain ⟨n, hn⟩ := h a r hr
  exact ⟨n, Zek qa qf qb n, (Zby (ids := [0]) (by kernel_rfl) (by decide) (fun i hi => by
    simp only [List.mem_cons, List.not_mem_nil, or_false] at hi
    rcases hi with rfl
    · exact Zbw (c2 := Zat (Zac Tryz.f54) 0) (by kernel_rfl) (by kernel_rfl) (ZlS qa qf qb h0 h1 h2 _ _ (Nat.le_refl _))
    )), (ZuG qa qf qb n a).trans hn⟩
def ZeT (qd : T3e) (qg : T3h) (qf : T3g) (qh : T3f) (n : Nat) (p0 : List Val) (p1 : List ((List UInt8) × (List Val))) : Option ((List Val) × Int) :=
  Option.bind (qd (p0, p1)) fun r1 =>
  cond (decide (r1 < (0 : Int)))
  (some ([], (6 : Int)))
  (Option.bind (cond (decide (r1 > (2000 : Int))) (qg p0) (some false)) fun r2 =>
  Option.bind (some (cond (decide (r1 > (2000 : Int))) r2 false)) fun m3 =>
  cond m3
  (some ([], (28 : Int)))
  (Option.bind (qf (p0, p1)) fun r4 =>
  Option.bind (qh r4) fun r5 =>
  cond (r5 != (0 : Int))
  (some ([], r5))
  (some (r4, (0 : Int)))))
abbrev Zmx (qd : T3e) (qg : T3h) (qf : T3g) (qh : T3f) : List (Nat × TCall X) := [(53, ⟨true, [.ty 22, .ty 60], [3], qd⟩), (14, ⟨true, [.ty 22], [4], qg⟩), (54, ⟨true, [.ty 22, .ty 60], [22], qf⟩), (33, ⟨true, [.ty 22], [28], qh⟩)]
noncomputable abbrev ZdU (qd : T3e) (qg : T3h) (qf : T3g) (qh : T3f) : Cx := ⟨C, U, Zmx qd qg qf qh, [], fun _ => []⟩
theorem ZkW : okF (C.ann 34) Tryz.f34 2 = true := by kernel_rfl
noncomputable abbrev Zft (qd : T3e) (qg : T3h) (qf : T3g) (qh : T3f) (n : Nat) : Ze9 (ZdU qd qg qf qh) (PX X [22, 28]) := []
theorem Zl8 (qd : T3e) (qg : T3h) (qf : T3g) (qh : T3f) (n : Nat) : ∀ a, fnL (ZdU qd qg qf qh) true 34 Tryz.f34 [.ty 22, .ty 60] [22, 28] (Zft qd qg qf qh n) a = ZeT qd qg qf qh n a.1 a.2 := by
  intro a
  kernel_rfl
theorem ZlG {K : Zaa} (qd : T3e) (qg : T3h) (qf : T3g) (qh : T3f) (h0 : P3c K qd) (h1 : P3f K qg) (h2 : P3e K qf) (h3 : P3g K qh) : CallsOk (ZdU qd qg qf qh) (Zab C K) :=
  ⟨(Zag h0 (Zag h1 (Zag h2 (Zag h3 ZaB)))), ZaC⟩
theorem Zih {K : Zaa} (hK : ∀ args h, K 34 args h = none) (qd : T3e) (qg : T3h) (qf : T3g) (qh : T3f) (h0 : P3c K qd) (h1 : P3f K qg) (h2 : P3e K qf) (h3 : P3g K qh) (t : PX X (AK.tys [.ty 22, .ty 60]) → Option (PX X [22, 28])) (h : ∀ a r, t a = some r → ∃ n, ZeT qd qg qf qh n a.1 a.2 = some r) : Zaj U (Zab C K) 34 ⟨true, [.ty 22, .ty 60], [22, 28], t⟩ := by
  refine Zav (x := ZdU qd qg qf qh) (ak := [.ty 22, .ty 60]) (rts := [22, 28]) (dir := true) ok (ZlG qd qg qf qh h0 h1 h2 h3) hK Tryz.func34 ZkW fun a r hr => ?_
  obtain ⟨n, hn⟩ := h a r hr
  exact ⟨n, Zft qd qg qf qh n, (Zau (show Zaq 0 (Zac Tryz.f34) = [] by kernel_rfl)), (Zl8 qd qg qf qh n a).trans hn⟩
def Zer {R : Type} (n : Nat) (a0 : List Cus) (a1 : List UInt8) (kx0 : Int → Option R) (kr : Int → Option R) (y4 : Int) (y5 : Int) (k : Int → Int → Option R) : Option R :=
  cond (decide (y5 < (a0.length : Int)))
  (Option.bind (ZeC a0 y5) fun x3 =>
  cond (x3.name == a1)
  (kr y5)
  (k y4 (IntKind.i64.wrap (y5 + (1 : Int)))))
  (kx0 y4)
def Zhp (n : Nat) (p0 : List Cus) (p1 : List UInt8) : Option Int :=
  Zgp (Zer n p0 p1 (fun z1 =>
  some (-1 : Int)) (fun z2 =>
  some z2)) n (0 : Int) (0 : Int)
abbrev Zpc : List (Nat × TCall X) := []
noncomputable abbrev Zch : Cx := ⟨C, U, Zpc , [], fun _ => []⟩
theorem Zn3 : okF (C.ann 17) Tryz.f17 2 = true := by kernel_rfl
abbrev ref30_Find_L0_D : LD := ⟨0, [.val 0 23, .val 1 9], [.val 4 2, .val 5 2], [(0, [.val 4 2])], [.val 4 3]⟩
abbrev Zc8 (n : Nat) : LG U (PX X [3]) ref30_Find_L0_D := fun c kx kr y k => Zer n c.1 c.2.1 (fun z0 => kx 0 (z0, ())) (fun z0 => kr (z0, ())) y.1 y.2.1 (fun z0 z1 => k (z0, z1, ()))
noncomputable abbrev Zdt (n : Nat) : Ze9 (Zch ) (PX X [3]) := [(0, ZfA U ref30_Find_L0_D (Zc8 n) n)]
theorem Zld (n : Nat) : ∀ c kx kr y k1, evL (Zch ) (ann 17) (Zdt n) 0 (Zat (Zac Tryz.f17) 0) (ZeN U ref30_Find_L0_D kx kr k1) (encS U ref30_Find_L0_D.cap ref30_Find_L0_D.din c y) = Zc8 n c (fun i z => kx i c z) kr y (fun y2 => k1 c y2) := by
  intro c kx kr y k1
  kernel_rfl
theorem Zpx (n : Nat) : ∀ a, fnL (Zch ) true 17 Tryz.f17 [.ty 23, .ty 9] [3] (Zdt n) a = Zhp n a.1 a.2 := by
  intro a
  kernel_rfl
theorem ZiU {K : Zaa} : CallsOk (Zch ) (Zab C K) :=
  ⟨ZaB, ZaC⟩
theorem Zjm {K : Zaa} (n : Nat) (b0 : Base) (bn0 : b0.nr ≤ 0) : Law (Zch ) b0 (Zab C K) (ann 17) n (Zat (Zac Tryz.f17) 0) (ZfA U ref30_Find_L0_D (Zc8 n) n) :=
  ZdA (x := Zch ) (id := 0) ok (ZiU ) (sums := Zdt n) (Zau (show Zaq 0 (Zat (Zac Tryz.f17) 0) = [] by kernel_rfl)) ref30_Find_L0_D bn0 (Zc8 n) (Zld n)
theorem Zks {K : Zaa} (hK : ∀ args h, K 17 args h = none) (t : PX X (AK.tys [.ty 23, .ty 9]) → Option (PX X [3])) (h : ∀ a r, t a = some r → ∃ n, Zhp n a.1 a.2 = some r) : Zaj U (Zab C K) 17 ⟨true, [.ty 23, .ty 9], [3], t⟩ := by
  refine Zav (x := Zch ) (ak := [.ty 23, .ty 9]) (rts := [3]) (dir := true) ok (ZiU ) hK Tryz.func17 Zn3 fun a r hr => ?_
  obtain ⟨n, hn⟩ := h a r hr
  exact ⟨n, Zdt n, (Zby (ids := [0]) (by kernel_rfl) (by decide) (fun i hi => by
    simp only [List.mem_cons, List.not_mem_nil, or_false] at hi
    rcases hi with rfl
    · exact Zbw (c2 := Zat (Zac Tryz.f17) 0) (by kernel_rfl) (by kernel_rfl) (Zjm _ _ (Nat.le_refl _))
    )), (Zpx n a).trans hn⟩
end Go.Tev.S1
namespace Go.Tev.S1
open Go.Abs Go.Proofs
def ZvJ (a : List Cus × List UInt8) : Option Int := if a.1.length ≤ B then some (ZcE a.1 a.2 0) else none
theorem ZsP {c : List Cus} {n : List UInt8} (h : c.length ≤ B) : ZvJ (c, n) = some (ZcE c n 0) := if_pos h
theorem Zwy (c : List Cus) (n : List UInt8) (h : c.length ≤ B) : Zhp (c.length + 1) c n = some (ZcE c n 0) := by
  have hB : B = 2 ^ 36 := rfl
  unfold Zhp
  refine (Zc3 c (fun (_ : Nat) => (0 : Int)) (fun b v => if v.name == n then .inr (some (b : Int)) else .inl (b + 1)) (fun b => some (-1 : Int)) (fun i b => b = i) ?_ ?_ ?_ 0 rfl _ (Nat.lt_succ_self _)).trans ?_
  · intro i b v k' hv hlt hb
    subst hb
    simp (disch := omega) only [Zer, Zbx hv, Option.bind_some, dlt hlt, cond_true, Zdh]
    cases (v.name == n) <;> rfl
  · intro i b v b' hv hb hs
    subst hb
    cases e : (v.name == n) <;> rw [e] at hs <;> cases hs
    rfl
  · intro b k' hb
    simp only [Zer, ZqY, cond_false]
  · clear h
    have : ∀ (l : List Cus) (b : Nat), ZkT (fun (b : Nat) (v : Cus) => if v.name == n then .inr (some (b : Int)) else .inl (b + 1)) (fun _ => some (-1 : Int)) l b = some (ZcE l n (b : Int)) := by
      intro l
      induction l with
      | nil => intro b; rfl
      | cons v l ih =>
        intro b
        simp only [ZkT, ZcE]
        cases (v.name == n) with
        | true => rfl
        | false => exact ih (b + 1)
    exact this c 0
theorem YaC {K : Zaa} (hK : ZcF K) : Zaj U (Zab C K) 17 ⟨true, [.ty 23, .ty 9], [3], ZvJ⟩ :=
  Zks (kf hK 17 (by decide)) _ fun a r h => by
    unfold ZvJ at h
    split at h
    · rename_i h3; cases h; exact ⟨_, Zwy a.1 a.2 h3⟩
    · cases h
def Zva (lk : Lk) (l : List Val) : Int := match Zey lk l with
  | some m => m
  | none => -1
theorem Zyc {R : Type} (lk : Lk) (z : Option R) (kx : List Val → Option R) : ∀ (l b : List Val), (Zey lk b).isSome = true →
    ZkT (fun b v => if (Zey lk (b ++ [v])).isSome = true then .inl (b ++ [v]) else .inr z) kx l b = if (Zey lk (b ++ l)).isSome = true then kx (b ++ l) else z := by
  intro l
  induction l with
  | nil => intro b hb; simp only [ZkT, List.append_nil, if_pos hb]
  | cons v l ih =>
    intro b hb
    simp only [ZkT]
    by_cases h : (Zey lk (b ++ [v])).isSome = true
    · rw [if_pos h]
      simp only
      rw [ih _ h, List.append_assoc]; rfl
    · rw [if_neg h]
      have : ¬ (Zey lk (b ++ v :: l)).isSome = true := by
        intro h2
        apply h
        have e : b ++ v :: l = (b ++ [v]) ++ l := by simp
        rw [e, ZhV] at h2
        cases hh : Zey lk (b ++ [v]) with
        | none => rw [hh] at h2; simp [ZkE] at h2
        | some x => rfl
      rw [if_neg this]
def okM (a : List Val × List (List UInt8 × List Val)) : Prop := Zak a.1 ≤ B ∧ ∀ p ∈ a.2, Zak p.2 ≤ V
instance (a) : Decidable (okM a) := inferInstanceAs (Decidable (_ ∧ _))
def Yaq (a : List Val × List (List UInt8 × List Val)) : Option Int := if okM a then some (Zva (lkM a.2) a.1) else none
theorem Zrt {l : List Val} {m : List (List UInt8 × List Val)} (h : Zak l ≤ B) (h2 : ∀ p ∈ m, Zak p.2 ≤ V) : Yaq (l, m) = some (Zva (lkM m) l) := if_pos ⟨h, h2⟩
theorem ZkY {lk : Lk} {l : List Val} {m : Nat} (h : Zak l ≤ B) (h2 : ∀ n x, lk n = some x → Zak x ≤ V) (hm : Zey lk l = some m) : m ≤ 2 ^ 60 := by
  have h3 := YcZ lk V (by decide) h2 l m hm
  have h4 : Zak l * V ≤ B * V := Nat.mul_le_mul_right _ h
  have h5 : B * V = 2 ^ 60 := by decide
  omega
theorem Zh4 {lk : Lk} {l : List Val} {m : Nat} (h : Zey lk l = some m) : Zva lk l = (m : Int) := by unfold Zva; rw [h]
theorem Ziu {lk : Lk} {l : List Val} (h : Zey lk l = none) : Zva lk l = -1 := by unfold Zva; rw [h]
theorem ZrQ : decide ((-1 : Int) < 0) = true := rfl
theorem ZqN (m : List (List UInt8 × List Val)) (l : List Val) (k : Nat) (h1 : Zak l < k + 1) (h2 : Zak l ≤ B) (hm : ∀ p ∈ m, Zak p.2 ≤ V) :
    Ze4 (fun v => some v.ref) (below (fun a : List Val × List (List UInt8 × List Val) => Zak a.1) k Yaq) Znh Zmp (l.length + 1) l m = some (Zva (lkM m) l) := by
  have hB : B = 2 ^ 36 := rfl
  have hV : V = 2 ^ 24 := rfl
  have hlk : ∀ n x, lkM m n = some x → Zak x ≤ V := by
    intro n x h
    obtain ⟨p, hp, rfl⟩ := ZvH h
    exact hm p hp
  unfold Ze4
  have e0 : Zva (lkM m) [] = 0 := by unfold Zva; rw [Zdi]; rfl
  refine ((congrArg (fun z => ZoG _ _ (0 : Int) z (0 : Int)) e0.symm).trans (Zg9 l (fun (_ : List Val) => (0 : Int)) (fun b => Zva (lkM m) b) (fun b v => if (Zey (lkM m) (b ++ [v])).isSome = true then .inl (b ++ [v]) else .inr (some (-1 : Int))) (fun b => some (Zva (lkM m) b)) (fun i b => b = l.take i ∧ (Zey (lkM m) b).isSome = true) ?_ ?_ ?_ [] ⟨rfl, by rw [Zdi]; rfl⟩ _ (Nat.lt_succ_self _))).trans ?_
  · intro i b v k' hv hlt hb
    obtain ⟨hb, hbs⟩ := hb
    obtain ⟨nb, hnb⟩ := Option.isSome_iff_exists.1 hbs
    have hmem := List.mem_of_getElem? hv
    have hs := ZeH hmem
    have hm1 := Zk7 hmem
    have hl := Zex l
    have he := v.tot_eq
    have hp := ZiE v.l
    have hble : Zak b ≤ B := by rw [hb]; exact Nat.le_trans (Zet l i) h2
    have hbb := ZkY hble hlk hnb
    have ib := Zh4 hnb
    have hbel : below (fun a : List Val × List (List UInt8 × List Val) => Zak a.1) k Yaq (v.l, m) = some (Zva (lkM m) v.l) := (ZdW (sz := fun a : List Val × List (List UInt8 × List Val) => Zak a.1) (show Zak v.l < k by omega)).trans (Zrt (by omega) hm)
    have hbel2 : below (fun a : List Val × List (List UInt8 × List Val) => Zak a.1) k Yaq ((Zaw v.l).2.1, m) = some (Zva (lkM m) (Zaw v.l).2.1) := (ZdW (sz := fun a : List Val × List (List UInt8 × List Val) => Zak a.1) (show Zak (Zaw v.l).2.1 < k by omega)).trans (Zrt (by omega) hm)
    have hi : IntKind.i64.wrap ((i : Int) + 1) = ((i + 1 : Nat) : Int) := Zbh (by omega)
    simp only [Zdf, Zbx hv, Option.bind_some, dlt hlt, cond_true, Val.eta, hi, Bool.cond_self]
    have hsn := ZxC (lkM m) b v
    rw [hnb] at hsn
    rw [ib]
    cases e1 : v.ref
    · rw [Zos e1] at hsn
      simp only [Bool.not_false, Bool.not_true, cond_true, cond_false, Option.bind_some, hbel, Bool.false_and]
      cases e2 : Zey (lkM m) v.l with
      | none =>
        rw [e2] at hsn
        rw [Ziu e2, hsn]
        simp only [ZrQ, cond_true, ZkE, Option.isSome_none, Bool.false_eq_true, if_false]
      | some n =>
        have hnn := ZkY (show Zak v.l ≤ B by omega) hlk e2
        rw [e2] at hsn
        have e3 : decide ((n : Int) < 0) = false := by simp
        rw [Zh4 e2, e3, if_pos (by rw [hsn]; rfl)]
        simp only [cond_false]
        rw [Zh4 hsn]
        simp (disch := omega) only [Zdh]
        have hx : (nb : Int) + (1 + (v.tok.t.length : Int) + (v.tok.u.length : Int)) + (n : Int) = ((nb + ((1 + v.tok.t.length + v.tok.u.length) + n) : Nat) : Int) := by omega
        rw [hx]
    · simp only [Bool.not_false, Bool.not_true, cond_true, cond_false, Option.bind_some, ZlF (show v.tot ≤ B by omega), Bool.true_and]
      cases e2 : Za4 BEq.beq (Zaw v.l).1 m with
      | some x =>
        have e2' : lkM m (Zaw v.l).1 = some x := e2
        have hxl := hlk _ _ e2'
        rw [Ztg e1 e2'] at hsn
        simp only [Zkd, Option.isSome_some, cond_true, Bool.not_true, Bool.false_and, cond_false, ZiC (show Zak x ≤ B by omega), Option.bind_some]
        have e3 : decide ((Zak x : Int) < 0) = false := by simp
        rw [e3, if_pos (by rw [hsn]; rfl)]
        simp only [cond_false]
        rw [Zh4 hsn, Zdh (by omega) (by omega)]
        rfl
      | none =>
        have e2' : lkM m (Zaw v.l).1 = none := e2
        simp only [Option.isSome_none, cond_false, Bool.not_false, Bool.true_and, Option.bind_some]
        cases e3 : (Zaw v.l).2.2
        · rw [ZtS e1 e2' e3] at hsn
          rw [hsn]
          simp only [ZrQ, cond_true, cond_false, Option.bind_some, ZkE, Option.isSome_none, Bool.false_eq_true, if_false]
        · rw [ZsE e1 e2' e3] at hsn
          simp only [cond_true, hbel2, Option.bind_some]
          cases e4 : Zey (lkM m) (Zaw v.l).2.1 with
          | none =>
            rw [e4] at hsn
            rw [Ziu e4, hsn]
            simp only [ZrQ, cond_true, ZkE, Option.isSome_none, Bool.false_eq_true, if_false]
          | some n =>
            rw [e4] at hsn
            have hnn := ZkY (show Zak (Zaw v.l).2.1 ≤ B by omega) hlk e4
            have e5 : decide ((n : Int) < 0) = false := by simp
            rw [Zh4 e4, e5, if_pos (by rw [hsn]; rfl)]
            simp only [cond_false]
            rw [Zh4 hsn, Zdh (by omega) (by omega)]
            rfl
  · intro i b v b' hv hb hs
    split at hs
    · rename_i h; cases hs; exact ⟨by rw [ZbG hv, hb.1], h⟩
    · cases hs
  · intro b k' hb
    simp only [Zdf, ZqY, cond_false]
  · rw [Zyc _ _ _ _ _ (by rw [Zdi]; rfl)]
    simp only [List.nil_append]
    cases e : Zey (lkM m) l with
    | none => rw [Ziu e]; rfl
    | some n => rfl
theorem ZvP {K : Zaa} (hK : ZcF K) : Zaj U (Zab C K) 53 ⟨true, [.ty 22, .ty 60], [3], Yaq⟩ :=
  ZdY (U := U) (ak := [.ty 22, .ty 60]) (rts := [3]) (fun a : List Val × List (List UInt8 × List Val) => Zak a.1) Yaq fun k ih => Ziq (kf hK 53 (by decide)) _ _ _ _ (Zrr hK) ih (Zrd hK) (Zsp hK) _ fun a r h => by
    obtain ⟨h1, h2⟩ := Zc5 h
    unfold Yaq at h2
    split at h2
    · rename_i h3; cases h2; exact ⟨_, ZqN a.2 a.1 k h1 h3.1 h3.2⟩
    · cases h2
end Go.Tev.S1
namespace Go.Tev
open Go.Abs
theorem Ybf {lk : Lk} {l : List Val} {n : Nat} (h : Zey lk l = some n) {v : Val} (hv : v ∈ l) : ∃ n', Zr0 lk v = some n' ∧ n' ≤ n := by
  induction l generalizing n with
  | nil => cases hv
  | cons w l ih =>
    rw [ZcG] at h
    obtain ⟨x, y, hx, hy, rfl⟩ := ZeA h
    rcases List.mem_cons.1 hv with rfl | hv
    · exact ⟨x, hx, by omega⟩
    · obtain ⟨n', h1, h2⟩ := ih hy hv
      exact ⟨n', h1, by omega⟩
theorem YbS {lk : Lk} {l : List Val} {n : Nat} (h : Zey lk l = some n) (i : Nat) : (Zec lk (l.take i)).length ≤ n := by
  rw [← List.take_append_drop i l, ZhV] at h
  obtain ⟨x, y, hx, hy, rfl⟩ := ZeA h
  have h1 := Zwv lk _ _ hx
  have h2 := Zex (Zec lk (l.take i))
  omega
theorem Zoj {l : List Val} {v : Val} (hv : v ∈ l) (h : v.hasv = true) : Zbd l = true := by
  induction l with
  | nil => cases hv
  | cons w l ih =>
    rw [Zbd]
    rcases List.mem_cons.1 hv with rfl | hv
    · rw [h]; rfl
    · rw [ih hv, Bool.or_true]
end Go.Tev
namespace Go.Tev.S1
open Go.Abs Go.Proofs
def okC' (a : List Val × List Cus) : Prop := Zak a.1 ≤ B ∧ a.2.length ≤ B ∧ ∀ p ∈ a.2, Zak p.val ≤ V
instance (a) : Decidable (okC' a) := inferInstanceAs (Decidable (_ ∧ _ ∧ _))
end Go.Tev.S1
namespace Go.Tev.S1
open Go.Abs Go.Proofs
abbrev Mp := List (List UInt8 × List Val)
def Yd0 (lk : Lk) : Prop := ∀ n x, lk n = some x → Zak x ≤ V ∧ Zbd x = false
def okP (lk : Lk) (l : List Val) : Prop := Zak l ≤ B ∧ Yd0 lk ∧ ∃ n, Zey lk l = some n ∧ n ≤ B
open Classical in
noncomputable def Ybo (a : List Val × Mp) : Option (List Val) := if okP (lkM a.2) a.1 then some (Zec (lkM a.2) a.1) else none
theorem Zri {l : List Val} {m : Mp} (h : okP (lkM m) l) : Ybo (l, m) = some (Zec (lkM m) l) := if_pos h
def szP (l : List Val) : Nat := if Zbd l then B + 1 + Zak l else Zak l
theorem Yb6 {lk : Lk} {l : List Val} (h : okP lk l) {v : Val} (hv : v ∈ l) :
    (v.ref = false → okP lk v.l ∧ szP v.l < szP l) ∧
    (v.ref = true → ∀ x, lk (Zaw v.l).1 = some x → okP lk x ∧ szP x < szP l ∧ Zec lk x = x) ∧
    (v.ref = true → lk (Zaw v.l).1 = none → okP lk (Zaw v.l).2.1 ∧ szP (Zaw v.l).2.1 < szP l) := by
  have hB : B = 2 ^ 36 := rfl
  have hV : V = 2 ^ 24 := rfl
  obtain ⟨h1, h2, n, h3, h4⟩ := h
  obtain ⟨n', h5, h6⟩ := Ybf h3 hv
  have hs := ZeH hv
  have hp := ZiE v.l
  have hmono : ∀ (y : List Val), Zak y < Zak l → (Zbd y = true → Zbd l = true) → szP y < szP l := by
    intro y hy hh
    unfold szP
    by_cases e : Zbd y = true
    · rw [if_pos e, if_pos (hh e)]; omega
    · rw [if_neg e]; split <;> omega
  refine ⟨fun e => ?_, fun e x hx => ?_, fun e hx => ?_⟩
  · rw [Zos e] at h5
    obtain ⟨a, b, ha, hb, rfl⟩ := ZeA h5
    refine ⟨⟨by omega, h2, b, hb, by omega⟩, hmono _ hs (fun hh => Zoj hv (by rw [Val.hasv_eq, hh, Bool.or_true]))⟩
  · obtain ⟨g1, g2⟩ := h2 _ _ hx
    refine ⟨⟨by omega, h2, Zak x, Znw lk x g2, by omega⟩, ?_, ZtC lk x g2⟩
    have : Zbd l = true := Zoj hv (by rw [Val.hasv_eq, e]; rfl)
    unfold szP
    rw [if_pos this, if_neg (by rw [g2]; decide)]
    omega
  · cases e3 : (Zaw v.l).2.2 with
    | false => rw [ZtS e hx e3] at h5; cases h5
    | true =>
      rw [ZsE e hx e3] at h5
      refine ⟨⟨by omega, h2, n', h5, by omega⟩, hmono _ (by omega) (fun _ => Zoj hv (by rw [Val.hasv_eq, e]; rfl))⟩
theorem Zpu {lk : Lk} {l : List Val} {n : Nat} (h : Zey lk l = some n) (hn : n ≤ B) {i : Nat} {v : Val} (hv : l[i]? = some v) {b : Nat} (hb : b ≤ 96) : room b ((Zec lk (l.take i)).length + (ZuK lk v).length) = some () := by
  have hB : B = 2 ^ 36 := rfl
  have h1 := YbS h (i + 1)
  rw [ZbG hv, ZqC, List.length_append] at h1
  exact YbF (by omega) hb
theorem Zzv (m : Mp) (l : List Val) (k : Nat) (h1 : szP l < k + 1) (h2 : okP (lkM m) l) :
    ZkF (fun v => some v.ref) (below (fun a : List Val × Mp => szP a.1) k Ybo) Znh (l.length + 1) l m = some (Zec (lkM m) l) := by
  have hB : B = 2 ^ 36 := rfl
  have hV : V = 2 ^ 24 := rfl
  unfold ZkF
  have e0 := Ze6 (lkM m)
  refine ((congrArg (fun z => Zgp _ _ z (0 : Int)) e0.symm).trans (Zc3 l (fun b => Zec (lkM m) b) (fun b v => .inl (b ++ [v])) (fun b => some (Zec (lkM m) b)) (fun i b => b = l.take i) ?_ ?_ ?_ [] rfl _ (Nat.lt_succ_self _))).trans ?_
  · intro i b v k' hv hlt hb
    subst hb
    have hmem := List.mem_of_getElem? hv
    have hs := ZeH hmem
    have hm1 := Zk7 hmem
    have hl := Zex l
    have hB2 := h2.1
    obtain ⟨g1, g2, g3⟩ := Yb6 h2 hmem
    obtain ⟨n, hn, hn2⟩ := h2.2.2
    have hr := Zpu hn hn2 hv (show 80 ≤ 96 by decide)
    have hi : IntKind.i64.wrap ((i : Int) + 1) = ((i + 1 : Nat) : Int) := Zbh (by omega)
    have bel : ∀ x, okP (lkM m) x → szP x < szP l → below (fun a : List Val × Mp => szP a.1) k Ybo (x, m) = some (Zec (lkM m) x) := fun x hx hz => (ZdW (sz := fun a : List Val × Mp => szP a.1) (show szP x < k by omega)).trans (Zri hx)
    simp only [ZfQ, Zbx hv, Option.bind_some, dlt hlt, cond_true, Val.eta, hi, Bool.cond_self]
    rw [ZqC]
    cases e1 : v.ref
    · obtain ⟨g4, g5⟩ := g1 e1
      rw [Zsf e1] at hr ⊢
      simp only [Bool.not_false, cond_true, bel _ g4 g5, Option.bind_some, hr]
    · simp only [Bool.not_true, cond_false, ZlF (show v.tot ≤ B by omega), Option.bind_some]
      cases e2 : Za4 BEq.beq (Zaw v.l).1 m with
      | some x =>
        have e2' : lkM m (Zaw v.l).1 = some x := e2
        obtain ⟨g4, g5, g6⟩ := g2 e1 x e2'
        rw [Zx2 e1 e2'] at hr ⊢
        simp only [Option.isSome_some, cond_true, Zkd, bel _ g4 g5, Option.bind_some, g6, hr]
      | none =>
        have e2' : lkM m (Zaw v.l).1 = none := e2
        obtain ⟨g4, g5⟩ := g3 e1 e2'
        rw [Zyg e1 e2'] at hr ⊢
        simp only [Option.isSome_none, cond_false, bel _ g4 g5, Option.bind_some, hr]
  · intro i b v b' hv hb hs
    cases hs
    rw [ZbG hv, hb]
  · intro b k' hb
    simp only [ZfQ, ZqY, cond_false]
  · rw [Zd0 (fun (b : List Val) (v : Val) => b ++ [v]), Zfk]
theorem YeA {K : Zaa} (hK : ZcF K) : Zaj U (Zab C K) 54 ⟨true, [.ty 22, .ty 60], [22], Ybo⟩ :=
  ZdY (U := U) (ak := [.ty 22, .ty 60]) (rts := [22]) (fun a : List Val × Mp => szP a.1) Ybo fun k ih => Zl5 (kf hK 54 (by decide)) _ _ _ (Zrr hK) ih (Zrd hK) _ fun a r h => by
    obtain ⟨h1, h2⟩ := Zc5 h
    unfold Ybo at h2
    split at h2
    · rename_i h3; cases h2; exact ⟨_, Zzv a.2 a.1 k h1 h3⟩
    · cases h2
end Go.Tev.S1
namespace Go.Tev.S1
open Go.Abs Go.Proofs
abbrev T4a : Type := (List UInt8) → Option Bool
abbrev T4b : Type := (List Cus) → Option Bool
abbrev T4c : Type := (List Val) → Option Int
abbrev T4d : Type := (List Val) → Option Bool
abbrev T4e : Type := (List Val) × Int → Option Int
abbrev P4a (K : Zaa) (t : T4a) : Prop := Zaj U (Zab C K) 61 ⟨true, [.ty 9], [4], t⟩
abbrev P4c (K : Zaa) (t : T4b) : Prop := Zaj U (Zab C K) 42 ⟨true, [.ty 23], [4], t⟩
abbrev P4d (K : Zaa) (t : T4c) : Prop := Zaj U (Zab C K) 33 ⟨true, [.ty 22], [28], t⟩
abbrev P4e (K : Zaa) (t : T4d) : Prop := Zaj U (Zab C K) 14 ⟨true, [.ty 22], [4], t⟩
abbrev P4f (K : Zaa) (t : T4c) : Prop := Zaj U (Zab C K) 44 ⟨true, [.ty 22], [3], t⟩
abbrev P4k (K : Zaa) (t : T4d) : Prop := Zaj U (Zab C K) 9 ⟨true, [.ty 22], [4], t⟩
abbrev P4l (K : Zaa) (t : T4e) : Prop := Zaj U (Zab C K) 27 ⟨true, [.ty 22, .ty 3], [3], t⟩
def Zeq (qa : T4a) {R : Type} (n : Nat) (a6 : List Cus) (a7 : Int) (kx0 : Bool → Option R) (kr : Bool → Option R) (y2 : Bool) (y3 : List UInt8) (y8 : Int) (k : Bool → List UInt8 → Int → Option R) : Option R :=
  cond (decide (y8 < a7))
  (Option.bind (ZeC a6 y8) fun x3 =>
  Option.bind (qa x3.name) fun r4 =>
  Option.bind (some (cond (!r4) true (Op.bytesLess x3.name y3 || x3.name == y3))) fun m5 =>
  cond m5
  (kr false)
  (k y2 x3.name (IntKind.i64.wrap (y8 + (1 : Int)))))
  (kx0 y2)
def Zho (qa : T4a) (n : Nat) (p0 : List Cus) : Option Bool :=
  ZoG (Zeq qa n p0 (p0.length : Int) (fun z1 =>
  some true) (fun z2 =>
  some z2)) n false [] (0 : Int)
abbrev ZpA (qa : T4a) : List (Nat × TCall X) := [(61, ⟨true, [.ty 9], [4], qa⟩)]
noncomputable abbrev Zcq (qa : T4a) : Cx := ⟨C, U, ZpA qa, [], fun _ => []⟩
theorem Zop : okF (C.ann 42) Tryz.f42 1 = true := by kernel_rfl
abbrev vars_named_L0_D : LD := ⟨0, [.val 6 23, .val 7 2], [.val 2 4, .val 3 9, .val 8 2], [(0, [.val 2 4])], [.val 2 4]⟩
abbrev Zdk (qa : T4a) (n : Nat) : LG U (PX X [4]) vars_named_L0_D := fun c kx kr y k => Zeq qa n c.1 c.2.1 (fun z0 => kx 0 (z0, ())) (fun z0 => kr (z0, ())) y.1 y.2.1 y.2.2.1 (fun z0 z1 z2 => k (z0, z1, z2, ()))
noncomputable abbrev Zdg (qa : T4a) (n : Nat) : Ze9 (Zcq qa) (PX X [4]) := [(0, ZfA U vars_named_L0_D (Zdk qa n) n)]
theorem Zlj (qa : T4a) (n : Nat) : ∀ c kx kr y k1, evL (Zcq qa) (ann 42) (Zdg qa n) 0 (Zat (Zac Tryz.f42) 0) (ZeN U vars_named_L0_D kx kr k1) (encS U vars_named_L0_D.cap vars_named_L0_D.din c y) = Zdk qa n c (fun i z => kx i c z) kr y (fun y2 => k1 c y2) := by
  intro c kx kr y k1
  kernel_rfl
theorem Zqz (qa : T4a) (n : Nat) : ∀ a, fnL (Zcq qa) true 42 Tryz.f42 [.ty 23] [4] (Zdg qa n) a = Zho qa n a := by
  intro a
  kernel_rfl
theorem Zh8 {K : Zaa} (qa : T4a) (h0 : P4a K qa) : CallsOk (Zcq qa) (Zab C K) :=
  ⟨(Zag h0 ZaB), ZaC⟩
theorem ZjA {K : Zaa} (qa : T4a) (h0 : P4a K qa) (n : Nat) (b0 : Base) (bn0 : b0.nr ≤ 0) : Law (Zcq qa) b0 (Zab C K) (ann 42) n (Zat (Zac Tryz.f42) 0) (ZfA U vars_named_L0_D (Zdk qa n) n) :=
  ZdA (x := Zcq qa) (id := 0) ok (Zh8 qa h0) (sums := Zdg qa n) (Zau (show Zaq 0 (Zat (Zac Tryz.f42) 0) = [] by kernel_rfl)) vars_named_L0_D bn0 (Zdk qa n) (Zlj qa n)
theorem Zkf {K : Zaa} (hK : ∀ args h, K 42 args h = none) (qa : T4a) (h0 : P4a K qa) (t : PX X (AK.tys [.ty 23]) → Option (PX X [4])) (h : ∀ a r, t a = some r → ∃ n, Zho qa n a = some r) : Zaj U (Zab C K) 42 ⟨true, [.ty 23], [4], t⟩ := by
  refine Zav (x := Zcq qa) (ak := [.ty 23]) (rts := [4]) (dir := true) ok (Zh8 qa h0) hK Tryz.func42 Zop fun a r hr => ?_
  obtain ⟨n, hn⟩ := h a r hr
  exact ⟨n, Zdg qa n, (Zby (ids := [0]) (by kernel_rfl) (by decide) (fun i hi => by
    simp only [List.mem_cons, List.not_mem_nil, or_false] at hi
    rcases hi with rfl
    · exact Zbw (c2 := Zat (Zac Tryz.f42) 0) (by kernel_rfl) (by kernel_rfl) (ZjA qa h0 _ _ (Nat.le_refl _))
    )), (Zqz qa n a).trans hn⟩
def Zem (qc : T4b) (qd : T4c) (qe : T4d) (qf : T4c) {R : Type} (n : Nat) (a13 : List Cus) (a14 : Int) (kx0 : Int → Option R) (kr : Int → Option R) (y2 : Int) (y15 : Int) (k : Int → Int → Option R) : Option R :=
  cond (decide (y15 < a14))
  (Option.bind (ZeC a13 y15) fun x5 =>
  Option.bind (qd x5.val) fun r6 =>
  Option.bind (cond (!(r6 != (0 : Int))) (qe x5.val) (some false)) fun r7 =>
  Option.bind (some (cond (r6 != (0 : Int)) true r7)) fun m8 =>
  Option.bind (cond (!m8) (qf x5.val) (some (0 : Int))) fun r9 =>
  Option.bind (some (cond m8 true (decide (r9 > (2000 : Int))))) fun m10 =>
  cond m10
  (kr (8 : Int))
  (k y2 (IntKind.i64.wrap (y15 + (1 : Int)))))
  (kx0 y2)
def Zhi (qc : T4b) (qd : T4c) (qe : T4d) (qf : T4c) (n : Nat) (p0 : List Cus) : Option Int :=
  Option.bind (cond (!(decide ((p0.length : Int) > (64 : Int)))) (qc p0) (some false)) fun r1 =>
  Option.bind (some (cond (decide ((p0.length : Int) > (64 : Int))) true (!r1))) fun m2 =>
  cond m2
  (some (8 : Int))
  (Zgp (Zem qc qd qe qf n p0 (p0.length : Int) (fun z3 =>
  some (0 : Int)) (fun z4 =>
  some z4)) n (0 : Int) (0 : Int))
abbrev Zpq (qc : T4b) (qd : T4c) (qe : T4d) (qf : T4c) : List (Nat × TCall X) := [(42, ⟨true, [.ty 23], [4], qc⟩), (33, ⟨true, [.ty 22], [28], qd⟩), (14, ⟨true, [.ty 22], [4], qe⟩), (44, ⟨true, [.ty 22], [3], qf⟩)]
noncomputable abbrev Zci (qc : T4b) (qd : T4c) (qe : T4d) (qf : T4c) : Cx := ⟨C, U, Zpq qc qd qe qf, [], fun _ => []⟩
theorem ZnQ : okF (C.ann 22) Tryz.f22 1 = true := by kernel_rfl
abbrev vars_Check_L0_D : LD := ⟨0, [.val 13 23, .val 14 2], [.val 2 2, .val 15 2], [(0, [.val 2 2])], [.val 2 28]⟩
abbrev Zdq (qc : T4b) (qd : T4c) (qe : T4d) (qf : T4c) (n : Nat) : LG U (PX X [28]) vars_Check_L0_D := fun c kx kr y k => Zem qc qd qe qf n c.1 c.2.1 (fun z0 => kx 0 (z0, ())) (fun z0 => kr (z0, ())) y.1 y.2.1 (fun z0 z1 => k (z0, z1, ()))
noncomputable abbrev Zdw (qc : T4b) (qd : T4c) (qe : T4d) (qf : T4c) (n : Nat) : Ze9 (Zci qc qd qe qf) (PX X [28]) := [(0, ZfA U vars_Check_L0_D (Zdq qc qd qe qf n) n)]
theorem Zlz (qc : T4b) (qd : T4c) (qe : T4d) (qf : T4c) (n : Nat) : ∀ c kx kr y k1, evL (Zci qc qd qe qf) (ann 22) (Zdw qc qd qe qf n) 0 (Zat (Zac Tryz.f22) 0) (ZeN U vars_Check_L0_D kx kr k1) (encS U vars_Check_L0_D.cap vars_Check_L0_D.din c y) = Zdq qc qd qe qf n c (fun i z => kx i c z) kr y (fun y2 => k1 c y2) := by
  intro c kx kr y k1
  kernel_rfl
theorem ZqG (qc : T4b) (qd : T4c) (qe : T4d) (qf : T4c) (n : Nat) : ∀ a, fnL (Zci qc qd qe qf) true 22 Tryz.f22 [.ty 23] [28] (Zdw qc qd qe qf n) a = Zhi qc qd qe qf n a := by
  intro a
  kernel_rfl
theorem ZiX {K : Zaa} (qc : T4b) (qd : T4c) (qe : T4d) (qf : T4c) (h0 : P4c K qc) (h1 : P4d K qd) (h2 : P4e K qe) (h3 : P4f K qf) : CallsOk (Zci qc qd qe qf) (Zab C K) :=
  ⟨(Zag h0 (Zag h1 (Zag h2 (Zag h3 ZaB)))), ZaC⟩
theorem Zjw {K : Zaa} (qc : T4b) (qd : T4c) (qe : T4d) (qf : T4c) (h0 : P4c K qc) (h1 : P4d K qd) (h2 : P4e K qe) (h3 : P4f K qf) (n : Nat) (b0 : Base) (bn0 : b0.nr ≤ 0) : Law (Zci qc qd qe qf) b0 (Zab C K) (ann 22) n (Zat (Zac Tryz.f22) 0) (ZfA U vars_Check_L0_D (Zdq qc qd qe qf n) n) :=
  ZdA (x := Zci qc qd qe qf) (id := 0) ok (ZiX qc qd qe qf h0 h1 h2 h3) (sums := Zdw qc qd qe qf n) (Zau (show Zaq 0 (Zat (Zac Tryz.f22) 0) = [] by kernel_rfl)) vars_Check_L0_D bn0 (Zdq qc qd qe qf n) (Zlz qc qd qe qf n)
theorem Zkc {K : Zaa} (hK : ∀ args h, K 22 args h = none) (qc : T4b) (qd : T4c) (qe : T4d) (qf : T4c) (h0 : P4c K qc) (h1 : P4d K qd) (h2 : P4e K qe) (h3 : P4f K qf) (t : PX X (AK.tys [.ty 23]) → Option (PX X [28])) (h : ∀ a r, t a = some r → ∃ n, Zhi qc qd qe qf n a = some r) : Zaj U (Zab C K) 22 ⟨true, [.ty 23], [28], t⟩ := by
  refine Zav (x := Zci qc qd qe qf) (ak := [.ty 23]) (rts := [28]) (dir := true) ok (ZiX qc qd qe qf h0 h1 h2 h3) hK Tryz.func22 ZnQ fun a r hr => ?_
  obtain ⟨n, hn⟩ := h a r hr
  exact ⟨n, Zdw qc qd qe qf n, (Zby (ids := [0]) (by kernel_rfl) (by decide) (fun i hi => by
    simp only [List.mem_cons, List.not_mem_nil, or_false] at hi
    rcases hi with rfl
    · exact Zbw (c2 := Zat (Zac Tryz.f22) 0) (by kernel_rfl) (by kernel_rfl) (Zjw qc qd qe qf h0 h1 h2 h3 _ _ (Nat.le_refl _))
    )), (ZqG qc qd qe qf n a).trans hn⟩
def ZcI (qk : T4d) (ql : T4e) {R : Type} (n : Nat) (a0 : List Cus) (kx0 : Bool → Int → Option R) (kr : Bool → Option R) (y2 : Bool) (y3 : Int) (y4 : Int) (k : Bool → Int → Int → Option R) : Option R :=
  Option.bind (some (cond (decide (y4 < (a0.length : Int))) (decide (y4 ≤ (70 : Int))) false)) fun m5 =>
  cond m5
  (Option.bind (ZeC a0 y4) fun x6 =>
  Option.bind (qk x6.val) fun r7 =>
  Option.bind (cond (!r7) (ZeC a0 y4) (some YeG)) fun x8 =>
  Option.bind (some (cond r7 true (decide ((x8.name.length : Int) > (100 : Int))))) fun m9 =>
  cond m9
  (kr true)
  (Option.bind (ZeC a0 y4) fun x10 =>
  Option.bind (ql (x10.val, (300 : Int))) fun r11 =>
  k y2 (IntKind.i64.wrap (y3 + r11)) (IntKind.i64.wrap (y4 + (1 : Int)))))
  (kx0 y2 y3)
def Zf7 (qk : T4d) (ql : T4e) (n : Nat) (p0 : List Cus) : Option Bool :=
  ZoG (ZcI qk ql n p0 (fun z1 z2 =>
  Option.bind (some (cond (decide ((p0.length : Int) > (70 : Int))) true (decide (z2 > (1500 : Int))))) fun m3 =>
  some m3) (fun z4 =>
  some z4)) n false (0 : Int) (0 : Int)
abbrev ZnO (qk : T4d) (ql : T4e) : List (Nat × TCall X) := [(9, ⟨true, [.ty 22], [4], qk⟩), (27, ⟨true, [.ty 22, .ty 3], [3], ql⟩)]
noncomputable abbrev ZbX (qk : T4d) (ql : T4e) : Cx := ⟨C, U, ZnO qk ql, [], fun _ => []⟩
theorem Zmq : okF (C.ann 10) Tryz.f10 1 = true := by kernel_rfl
abbrev ref30_Great_L0_D : LD := ⟨0, [.val 0 23], [.val 2 4, .val 3 2, .val 4 2], [(0, [.val 2 4, .val 3 2])], [.val 2 4]⟩
abbrev ZcN (qk : T4d) (ql : T4e) (n : Nat) : LG U (PX X [4]) ref30_Great_L0_D := fun c kx kr y k => ZcI qk ql n c.1 (fun z0 z1 => kx 0 (z0, z1, ())) (fun z0 => kr (z0, ())) y.1 y.2.1 y.2.2.1 (fun z0 z1 z2 => k (z0, z1, z2, ()))
noncomputable abbrev ZcU (qk : T4d) (ql : T4e) (n : Nat) : Ze9 (ZbX qk ql) (PX X [4]) := [(0, ZfA U ref30_Great_L0_D (ZcN qk ql n) n)]
theorem Zkk (qk : T4d) (ql : T4e) (n : Nat) : ∀ c kx kr y k1, evL (ZbX qk ql) (ann 10) (ZcU qk ql n) 0 (Zat (Zac Tryz.f10) 0) (ZeN U ref30_Great_L0_D kx kr k1) (encS U ref30_Great_L0_D.cap ref30_Great_L0_D.din c y) = ZcN qk ql n c (fun i z => kx i c z) kr y (fun y2 => k1 c y2) := by
  intro c kx kr y k1
  kernel_rfl
theorem Zns (qk : T4d) (ql : T4e) (n : Nat) : ∀ a, fnL (ZbX qk ql) true 10 Tryz.f10 [.ty 23] [4] (ZcU qk ql n) a = Zf7 qk ql n a := by
  intro a
  kernel_rfl
theorem ZhC {K : Zaa} (qk : T4d) (ql : T4e) (h0 : P4k K qk) (h1 : P4l K ql) : CallsOk (ZbX qk ql) (Zab C K) :=
  ⟨(Zag h0 (Zag h1 ZaB)), ZaC⟩
theorem Zic {K : Zaa} (qk : T4d) (ql : T4e) (h0 : P4k K qk) (h1 : P4l K ql) (n : Nat) (b0 : Base) (bn0 : b0.nr ≤ 0) : Law (ZbX qk ql) b0 (Zab C K) (ann 10) n (Zat (Zac Tryz.f10) 0) (ZfA U ref30_Great_L0_D (ZcN qk ql n) n) :=
  ZdA (x := ZbX qk ql) (id := 0) ok (ZhC qk ql h0 h1) (sums := ZcU qk ql n) (Zau (show Zaq 0 (Zat (Zac Tryz.f10) 0) = [] by kernel_rfl)) ref30_Great_L0_D bn0 (ZcN qk ql n) (Zkk qk ql n)
theorem ZjB {K : Zaa} (hK : ∀ args h, K 10 args h = none) (qk : T4d) (ql : T4e) (h0 : P4k K qk) (h1 : P4l K ql) (t : PX X (AK.tys [.ty 23]) → Option (PX X [4])) (h : ∀ a r, t a = some r → ∃ n, Zf7 qk ql n a = some r) : Zaj U (Zab C K) 10 ⟨true, [.ty 23], [4], t⟩ := by
  refine Zav (x := ZbX qk ql) (ak := [.ty 23]) (rts := [4]) (dir := true) ok (ZhC qk ql h0 h1) hK Tryz.func10 Zmq fun a r hr => ?_
  obtain ⟨n, hn⟩ := h a r hr
  exact ⟨n, ZcU qk ql n, (Zby (ids := [0]) (by kernel_rfl) (by decide) (fun i hi => by
    simp only [List.mem_cons, List.not_mem_nil, or_false] at hi
    rcases hi with rfl
    · exact Zbw (c2 := Zat (Zac Tryz.f10) 0) (by kernel_rfl) (by kernel_rfl) (Zic qk ql h0 h1 _ _ (Nat.le_refl _))
    )), (Zns qk ql n a).trans hn⟩
end Go.Tev.S1
namespace Go.Tev
open Go.Abs
theorem Zh2 (a : List UInt8) : Op.bytesLess a a = false := by
  induction a with
  | nil => rfl
  | cons x a ih => rw [Op.bytesLess, ih]; simp
theorem ZtQ (a b : List UInt8) : (!(Op.bytesLess a b || a == b)) = Op.bytesLess b a := by
  induction a generalizing b with
  | nil => cases b <;> rfl
  | cons x a ih => cases b with
    | nil => rfl
    | cons y b =>
      have := ih b
      rw [Op.bytesLess, Op.bytesLess, ← this, List.cons_beq_cons]
      by_cases h1 : x = y
      · subst h1
        have : decide (x < x) = false := by simp
        rw [this]
        simp
      · have h2 : (x == y) = false := by simpa using h1
        have h3 : (y == x) = false := by simpa using fun h => h1 h.symm
        rw [h2, h3]
        simp only [Bool.false_and, Bool.or_false]
        rw [← decide_not]
        congr 1
        rw [UInt8.lt_iff_toNat_lt, UInt8.lt_iff_toNat_lt]
        have : x.toNat ≠ y.toNat := fun h => h1 (UInt8.toNat_inj.1 h)
        apply propext
        omega
theorem Zjj {a b c : List UInt8} (h1 : Op.bytesLess a b = true) (h2 : Op.bytesLess b c = true) : Op.bytesLess a c = true := by
  induction a generalizing b c with
  | nil => cases c with
    | nil => cases b <;> simp [Op.bytesLess] at h2
    | cons => rfl
  | cons x a ih => cases b with
    | nil => simp [Op.bytesLess] at h1
    | cons y b => cases c with
      | nil => simp [Op.bytesLess] at h2
      | cons z c =>
        rw [Op.bytesLess, Bool.or_eq_true, Bool.and_eq_true, decide_eq_true_iff, beq_iff_eq] at h1 h2 ⊢
        rcases h1 with h1 | ⟨h1, h1'⟩
        · rcases h2 with h2 | ⟨h2, h2'⟩
          · left; rw [UInt8.lt_iff_toNat_lt] at *; omega
          · left; rw [← h2]; exact h1
        · rcases h2 with h2 | ⟨h2, h2'⟩
          · left; rw [h1]; exact h2
          · right; exact ⟨h1.trans h2, ih h1' h2'⟩
def namL : Option (List UInt8) → List Cus → Bool
  | _, [] => true
  | p, c :: r => ZbW c.name && (match p with
    | none => true
    | some q => Op.bytesLess q c.name) && namL (some c.name) r
theorem Zo2 {n : List UInt8} (h : ZbW n = true) : n ≠ [] := by
  intro e; subst e; simp [ZbW] at h
theorem Zvl {q : List UInt8} {c : List Cus} (h : namL (some q) c = true) : ∀ x ∈ c, Op.bytesLess q x.name = true := by
  induction c generalizing q with
  | nil => intro x hx; cases hx
  | cons y c ih =>
    rw [namL, Bool.and_eq_true, Bool.and_eq_true] at h
    intro x hx
    rcases List.mem_cons.1 hx with rfl | hx
    · exact h.1.2
    · exact Zjj h.1.2 (ih h.2 x hx)
theorem Zpp {p : Option (List UInt8)} {y : Cus} {c : List Cus} (h : namL p (y :: c) = true) : (∀ x ∈ c, x.name ≠ y.name) ∧ namL (some y.name) c = true := by
  have h2 : namL (some y.name) c = true := by
    rw [namL.eq_def] at h
    simp only [Bool.and_eq_true] at h
    exact h.2
  refine ⟨fun x hx e => ?_, h2⟩
  have := Zvl h2 x hx
  rw [e, Zh2] at this
  cases this
end Go.Tev
namespace Go.Tev.S1
open Go.Abs Go.Proofs
def ZqW (c : List Cus) : Option Bool := if c.length ≤ B then some (namL none c) else none
theorem Zqk {c : List Cus} (h : c.length ≤ B) : ZqW c = some (namL none c) := if_pos h
def YaP (p : Option (List UInt8)) (v : Cus) : Bool := ZbW v.name && (match p with
  | none => true
  | some q => Op.bytesLess q v.name)
theorem YbB (l : List Cus) : ∀ p, ZkT (fun (p : Option (List UInt8)) v => if YaP p v = true then .inl (some v.name) else .inr (some false)) (fun _ => some true) l p = some (namL p l) := by
  induction l with
  | nil => intro p; rw [namL.eq_def]; rfl
  | cons v l ih =>
    intro p
    simp only [ZkT]
    have e : namL p (v :: l) = (YaP p v && namL (some v.name) l) := by rw [namL.eq_def]; rfl
    rw [e]
    by_cases h : YaP p v = true
    · rw [if_pos h, h]; exact ih _
    · rw [if_neg h, (Bool.not_eq_true _).mp h]; rfl
def YaH : Option (List UInt8) → List UInt8
  | none => []
  | some q => q
theorem Zuq (c : List Cus) (h : c.length ≤ B) : Zho (fun p => some (ZbW p)) (c.length + 1) c = some (namL none c) := by
  have hB : B = 2 ^ 36 := rfl
  unfold Zho
  refine (Zg9 c (fun (_ : Option (List UInt8)) => false) YaH (fun p v => if YaP p v = true then .inl (some v.name) else .inr (some false)) (fun _ => some true) (fun i b => True) ?_ ?_ ?_ none trivial _ (Nat.lt_succ_self _)).trans (YbB c none)
  · intro i b v k' hv hlt hb
    have hi : IntKind.i64.wrap ((i : Int) + 1) = ((i + 1 : Nat) : Int) := Zbh (by omega)
    simp only [Zeq, Zbx hv, Option.bind_some, dlt hlt, cond_true, hi]
    have key : (bif !ZbW v.name then true else (Op.bytesLess v.name (YaH b) || v.name == YaH b)) = !YaP b v := by
      unfold YaP
      cases e1 : ZbW v.name
      · rfl
      · have hne := Zo2 e1
        cases b with
        | none =>
          cases e3 : v.name with
          | nil => exact absurd e3 hne
          | cons x r => rfl
        | some q =>
          change (Op.bytesLess v.name q || v.name == q) = !(true && Op.bytesLess q v.name)
          rw [← ZtQ v.name q, Bool.true_and, Bool.not_not]
    rw [key]
    cases YaP b v <;> rfl
  · intro i b v b' hv hb hs; trivial
  · intro b k' hb
    simp only [Zeq, ZqY, cond_false]
theorem Zxr {K : Zaa} (hK : ZcF K) : Zaj U (Zab C K) 42 ⟨true, [.ty 23], [4], ZqW⟩ :=
  Zkf (kf hK 42 (by decide)) _ (ZsI hK) _ fun a r h => by
    unfold ZqW at h
    split at h
    · rename_i h3; cases h; exact ⟨_, Zuq a h3⟩
    · cases h
def ZkS (v : Cus) : Bool := (ZaN v.val != 0) || Zbd v.val || decide (Zak v.val > 2000)
def YcS : List Cus → Int
  | [] => 0
  | v :: r => if ZkS v then 8 else YcS r
def YcP (c : List Cus) : Int := if c.length > 64 ∨ namL none c = false then 8 else YcS c
def Zi2 (c : List Cus) : Prop := c.length ≤ B ∧ ∀ v ∈ c, Zak v.val ≤ V
instance (a) : Decidable (Zi2 a) := inferInstanceAs (Decidable (_ ∧ _))
def Ydx (c : List Cus) : Option Int := if Zi2 c then some (YcP c) else none
theorem Ya3 {c : List Cus} (h : Zi2 c) : Ydx c = some (YcP c) := if_pos h
theorem Ybn (l : List Cus) : ZkT (fun (_ : Unit) v => if ZkS v = true then .inr (some (8 : Int)) else .inl ()) (fun _ => some (0 : Int)) l () = some (YcS l) := by
  induction l with
  | nil => rfl
  | cons v l ih =>
    simp only [ZkT, YcS]
    by_cases h : ZkS v = true
    · rw [if_pos h, if_pos h]
    · rw [if_neg h, if_neg h]; exact ih
theorem ZzP (c : List Cus) (h : Zi2 c) : Zhi ZqW ZjV ZxT Zmp (c.length + 1) c = some (YcP c) := by
  have hB : B = 2 ^ 36 := rfl
  have hV : V = 2 ^ 24 := rfl
  obtain ⟨hl, hm⟩ := h
  unfold Zhi YcP
  by_cases h1 : c.length > 64
  · have : decide ((c.length : Int) > 64) = true := by simp; omega
    rw [this, if_pos (.inl h1)]; rfl
  · have e : decide ((c.length : Int) > 64) = false := by simp; omega
    simp only [e, Bool.not_false, cond_true, cond_false, Zqk hl, Option.bind_some]
    cases h2 : namL none c
    · rw [if_pos (.inr rfl)]; rfl
    · rw [if_neg (by simp; omega)]
      simp only [Bool.not_true, cond_false]
      refine (Zc3 c (fun (_ : Unit) => (0 : Int)) (fun _ v => if ZkS v = true then .inr (some (8 : Int)) else .inl ()) (fun _ => some (0 : Int)) (fun i b => True) ?_ ?_ ?_ () trivial _ (Nat.lt_succ_self _)).trans (Ybn c)
      · intro i b v k' hv hlt hb
        have hvm := hm v (List.mem_of_getElem? hv)
        have hi : IntKind.i64.wrap ((i : Int) + 1) = ((i + 1 : Nat) : Int) := Zbh (by omega)
        have hd : decide ((Zak v.val : Int) > 2000) = decide (Zak v.val > 2000) := by simp; omega
        simp only [Zem, Zbx hv, Option.bind_some, dlt hlt, cond_true, hi, Zfx (show Zak v.val ≤ B by omega), Zny (show Zak v.val ≤ B by omega), ZiC (show Zak v.val ≤ B by omega)]
        unfold ZkS
        cases e1 : (ZaN v.val != 0) <;> cases e2 : Zbd v.val <;> cases e3 : decide (Zak v.val > 2000) <;> rw [e3] at hd <;> first | rfl | simp [hd]
      · intro i b v b' hv hb hs; trivial
      · intro b k' hb
        simp only [Zem, ZqY, cond_false]
theorem Ycn {K : Zaa} (hK : ZcF K) : Zaj U (Zab C K) 22 ⟨true, [.ty 23], [28], Ydx⟩ :=
  Zkc (kf hK 22 (by decide)) _ _ _ _ (Zxr hK) (ZeD (kf hK 33 (by decide)) (kf hK 52 (by decide)) (kf hK 66 (by decide))) (Yby hK) (Zsp hK) _ fun a r h => by
    unfold Ydx at h
    split at h
    · rename_i h3; cases h; exact ⟨_, ZzP a h3⟩
    · cases h
end Go.Tev.S1
namespace Go.Tev.S1
open Go.Abs Go.Proofs
def Zgl (lk : Lk) (l : List Val) : List Val × Int := match Zey lk l with
  | none => ([], 6)
  | some n => if 2000 < n ∧ Zbd l = true then ([], 28) else if ZaN (Zec lk l) = 0 then (Zec lk l, 0) else ([], ZaN (Zec lk l))
def okR (lk : Lk) (l : List Val) : Prop := Zak l ≤ B ∧ Yd0 lk
open Classical in
noncomputable def Zn7 (a : List Val × Mp) : Option (List Val × Int) := if okR (lkM a.2) a.1 ∧ ∀ p ∈ a.2, Zak p.2 ≤ V then some (Zgl (lkM a.2) a.1) else none
theorem Zrf {l : List Val} {m : Mp} (h : okR (lkM m) l) (h2 : ∀ p ∈ m, Zak p.2 ≤ V) : Zn7 (l, m) = some (Zgl (lkM m) l) := if_pos ⟨h, h2⟩
theorem Yaz {lk : Lk} {l : List Val} (h : okR lk l) {n : Nat} (hn : Zey lk l = some n) (h2 : ¬ (2000 < n ∧ Zbd l = true)) : okP lk l ∧ Zak (Zec lk l) ≤ B := by
  have hB : B = 2 ^ 36 := rfl
  have : n ≤ B := by
    by_cases h3 : 2000 < n
    · cases e : Zbd l with
      | true => exact absurd ⟨h3, e⟩ h2
      | false =>
        rw [Znw lk l e] at hn
        cases hn
        exact h.1
    · omega
  exact ⟨⟨h.1, h.2, n, hn, this⟩, by rw [Zwv lk l n hn]; exact this⟩
theorem Zp3 (m : Mp) (l : List Val) (h : okR (lkM m) l) (hm : ∀ p ∈ m, Zak p.2 ≤ V) : ZeT Yaq ZxT Ybo ZjV 0 l m = some (Zgl (lkM m) l) := by
  unfold ZeT Zgl
  rw [Zrt h.1 hm]
  cases e : Zey (lkM m) l with
  | none =>
    rw [Ziu e]; rfl
  | some n =>
    rw [Zh4 e]
    have e1 : decide ((n : Int) < 0) = false := by simp
    simp only [Option.bind_some, e1, cond_false, Zny h.1]
    by_cases h2 : 2000 < n ∧ Zbd l = true
    · have e2 : decide ((n : Int) > 2000) = true := by simp; omega
      rw [if_pos h2]
      simp only [e2, h2.2, cond_true, Option.bind_some]
    · obtain ⟨g1, g2⟩ := Yaz h e h2
      have e2 : (bif decide ((n : Int) > 2000) then Zbd l else false) = false := by
        by_cases h3 : 2000 < n
        · have : Zbd l = false := by
            cases e : Zbd l with
            | true => exact absurd ⟨h3, e⟩ h2
            | false => rfl
          rw [this]; simp
        · have : decide ((n : Int) > 2000) = false := by simp; omega
          rw [this]; rfl
      rw [if_neg h2]
      have e3 : ∀ (X : Option Bool), (Option.bind (bif decide ((n : Int) > 2000) then some (Zbd l) else some false) fun r2 => (some (bif decide ((n : Int) > 2000) then r2 else false))) = some false := by
        intro X
        rw [← e2]
        cases decide ((n : Int) > 2000) <;> rfl
      cases e4 : decide ((n : Int) > 2000)
      · simp only [cond_false, Option.bind_some, Zri g1, Zfx g2]
        by_cases h5 : ZaN (Zec (lkM m) l) = 0
        · have : (ZaN (Zec (lkM m) l) != 0) = false := by simpa using h5
          rw [this, if_pos h5]; rfl
        · have : (ZaN (Zec (lkM m) l) != 0) = true := by simpa using h5
          rw [this, if_neg h5]; rfl
      · have e5 : Zbd l = false := by rw [e4] at e2; exact e2
        simp only [cond_true, e5, cond_false, Option.bind_some, Zri g1, Zfx g2]
        by_cases h5 : ZaN (Zec (lkM m) l) = 0
        · have : (ZaN (Zec (lkM m) l) != 0) = false := by simpa using h5
          rw [this, if_pos h5]; rfl
        · have : (ZaN (Zec (lkM m) l) != 0) = true := by simpa using h5
          rw [this, if_neg h5]; rfl
theorem ZxI {K : Zaa} (hK : ZcF K) : Zaj U (Zab C K) 34 ⟨true, [.ty 22, .ty 60], [22, 28], Zn7⟩ :=
  Zih (kf hK 34 (by decide)) _ _ _ _ (ZvP hK) (Yby hK) (YeA hK) (ZeD (kf hK 33 (by decide)) (kf hK 52 (by decide)) (kf hK 66 (by decide))) _ fun a r h => by
    unfold Zn7 at h
    split at h
    · rename_i h3; cases h; exact ⟨0, Zp3 a.2 a.1 h3.1 h3.2⟩
    · cases h
end Go.Tev.S1
namespace Go.Tev
open Go.Abs
mutual
def Val.uses : Val → List (List UInt8)
  | .mk t l => (if (t.k == 2 && (Ze0 t.t == [118, 97, 114])) && ((Zaw l).1 != []) then [(Zaw l).1] else []) ++ Za8 l
def Za8 : List Val → List (List UInt8)
  | [] => []
  | v :: r => v.uses ++ Za8 r
end
theorem Val.uses_eq (v : Val) : v.uses = (if v.ref && ((Zaw v.l).1 != []) then [(Zaw v.l).1] else []) ++ Za8 v.l := by cases v; rfl
theorem ZpT (a b : List Val) : Za8 (a ++ b) = Za8 a ++ Za8 b := by
  induction a with
  | nil => rfl
  | cons v a ih => simp only [List.cons_append, Za8, ih, List.append_assoc]
theorem Ydo {α : Type} (c : Bool) (n : α) : (if c = true then [n] else []).length ≤ 1 := by cases c <;> simp
mutual
theorem Zz2 : ∀ v : Val, v.uses.length ≤ v.tot
  | .mk t l => by
    have := ZiR l
    rw [Val.uses_eq, Val.tot_eq]
    simp only [Val.l, Val.tok, List.length_append]
    exact Nat.le_trans (Nat.add_le_add_right (Ydo _ _) _) (by omega)
theorem ZiR : ∀ l : List Val, (Za8 l).length ≤ Zak l
  | [] => Nat.le_refl _
  | v :: r => by
    have h1 := Zz2 v
    have h2 := ZiR r
    simp only [Za8, Zak, List.length_append]; omega
end
abbrev Bm := List (List UInt8 × Bool)
def Zeb (h : Bm) (l : List Val) : Bm := (Za8 l).foldl (fun h n => ZkA BEq.beq n true h) h
theorem Zwf (h : Bm) (l : List Val) (v : Val) : Zeb h (l ++ [v]) = (v.uses).foldl (fun h n => ZkA BEq.beq n true h) (Zeb h l) := by
  unfold Zeb
  rw [ZpT, List.foldl_append]
  simp [Za8]
end Go.Tev
namespace Go.Tev.S1
open Go.Abs Go.Proofs
def YbW (l : List Val) (cs : Bm × Unit) : Option (Unit × (Bm × Unit)) := if Zak l ≤ B then some ((), (Zeb cs.1 l, ())) else none
theorem Zrx {l : List Val} {h : Bm} (h1 : Zak l ≤ B) : YbW l (h, ()) = some ((), (Zeb h l, ())) := if_pos h1
theorem ZyA (l : List Val) (h : Bm) (k : Nat) (h1 : Zak l < k + 1) (h2 : Zak l ≤ B) : Ze1 (fun v => some v.ref) Znh (fun a cs => if Zak a < k then YbW a cs else none) (l.length + 1) l h = some ((), (Zeb h l, ())) := by
  have hB : B = 2 ^ 36 := rfl
  unfold Ze1
  refine (ZlZ l (fun b => Zeb h b) (fun b v => .inl (b ++ [v])) (fun b => some ((), (Zeb h b, ()))) (fun i b => b = l.take i) ?_ ?_ ?_ [] rfl _ (Nat.lt_succ_self _)).trans ?_
  · intro i b v k' hv hlt hb
    subst hb
    have hmem := List.mem_of_getElem? hv
    have hs := ZeH hmem
    have hm1 := Zk7 hmem
    have hl := Zex l
    have hi : IntKind.i64.wrap ((i : Int) + 1) = ((i + 1 : Nat) : Int) := Zbh (by omega)
    have hbel : ∀ g : Bm, (if Zak v.l < k then YbW v.l (g, ()) else none) = some ((), (Zeb g v.l, ())) := fun g => (if_pos (by omega)).trans (Zrx (by omega))
    simp only [Zdu, Zbx hv, Option.bind_some, dlt hlt, cond_true, Val.eta, hi, Bool.cond_self, hbel, Zwf, Val.uses_eq, List.foldl_append]
    cases e1 : v.ref
    · simp only [cond_false, Bool.false_and, Bool.false_eq_true, if_false, List.foldl_nil]; rfl
    · simp only [cond_true, Bool.true_and, Option.bind_some, ZlF (show v.tot ≤ B by omega)]
      cases e2 : ((Zaw v.l).1 != [])
      · simp only [cond_false, Bool.false_eq_true, if_false, List.foldl_nil]; rfl
      · simp only [cond_true, if_true, List.foldl_cons, List.foldl_nil]; rfl
  · intro i b v b' hv hb hs
    cases hs
    rw [ZbG hv, hb]
  · intro b k' hb
    simp only [Zdu, ZqY, cond_false]
  · rw [Zd0 (fun (b : List Val) (v : Val) => b ++ [v]), Zfk]
theorem Zpo {K : Zaa} (hK : ZcF K) : ZdZ U (Zab C K) 36 ⟨[.ty 22, .ref (.map 9 4)], [], YbW⟩ :=
  Zub (U := U) (ak := [.ty 22, .ref (.map 9 4)]) (rts := []) Zak YbW fun k ih => Zig (kf hK 36 (by decide)) _ _ _ (Zrr hK) (Zrd hK) ih _ fun a cs r h => by
    by_cases h1 : Zak a < k + 1
    · have h2 : YbW a cs = some r := (if_pos h1).symm.trans h
      unfold YbW at h2
      by_cases h3 : Zak a ≤ B
      · rw [if_pos h3] at h2; cases h2; exact ⟨_, ZyA a cs.1 k h1 h3⟩
      · rw [if_neg h3] at h2; cases h2
    · have h2 : none = some r := (if_neg h1).symm.trans h
      cases h2
noncomputable def Zjh (c : List Cus) : Option Bool := if Zi2 c then Zf7 Zpt Zmu (c.length + 2) c else none
theorem Zzc {K : Zaa} (hK : ZcF K) : Zaj U (Zab C K) 10 ⟨true, [.ty 23], [4], Zjh⟩ :=
  ZjB (kf hK 10 (by decide)) _ _ (Yb2 hK) (YaG hK) _ fun a r h => by
    unfold Zjh at h
    split at h
    · exact ⟨_, h⟩
    · cases h
theorem ZrL {c : List Cus} (h : Zi2 c) : ∃ b, Zjh c = some b := by
  have hB : B = 2 ^ 36 := rfl
  have hV : V = 2 ^ 24 := rfl
  unfold Zjh
  rw [if_pos h]
  unfold Zf7 ZoG
  have main : ∀ (r : List Cus) (i : Nat) (acc : Int) (fuel : Nat), c.drop i = r → i ≤ c.length → r.length + 1 < fuel → ∃ b, Zgk (fun y k_1 => ZcI Zpt Zmu (c.length + 2) c (fun z1 z2 =>
      Option.bind (some (bif decide ((c.length : Int) > 70) then true else decide (z2 > 1500))) fun m3 => some m3) (fun z4 => some z4) y.1 y.2.1 y.2.2.1 fun a0 a1 a2 => k_1 (a0, a1, a2, ())) fuel (false, acc, (i : Int), ()) = some b := by
    intro r
    induction r with
    | nil =>
      intro i acc fuel hr hi hf
      obtain ⟨n, rfl⟩ : ∃ n, fuel = n + 1 := ⟨fuel - 1, by omega⟩
      have : i = c.length := by
        have := congrArg List.length hr
        simp at this; omega
      subst this
      simp only [Zgk, ZcI, ZqY, cond_false, Option.bind_some]
      exact ⟨_, rfl⟩
    | cons v r ih =>
      intro i acc fuel hr hi hf
      obtain ⟨n, rfl⟩ : ∃ n, fuel = n + 1 := ⟨fuel - 1, by omega⟩
      have hv : c[i]? = some v := by
        have := congrArg (fun x => x[0]?) hr
        simpa using this
      have hlt : i < c.length := (List.getElem?_eq_some_iff.1 hv).1
      have hr' : c.drop (i + 1) = r := by rw [← List.drop_drop, hr]; rfl
      have hvm := h.2 v (List.mem_of_getElem? hv)
      have hl := h.1
      have hi2 : IntKind.i64.wrap ((i : Int) + 1) = ((i + 1 : Nat) : Int) := Zbh (by omega)
      simp only [Zgk, ZcI, dlt hlt, cond_true, Option.bind_some, Zbx hv, ZwS (show Zak v.val ≤ B by omega), ZnH (show Zak v.val ≤ B by omega), hi2]
      cases decide ((i : Int) ≤ 70)
      · exact ⟨_, rfl⟩
      · simp only [cond_true]
        cases Zvq v.val
        · simp only [Bool.not_false, cond_true, cond_false, Option.bind_some]
          cases decide ((v.name.length : Int) > 100)
          · exact ih (i + 1) _ n hr' (by omega) (by simp at hf; omega)
          · exact ⟨_, rfl⟩
        · exact ⟨_, rfl⟩
  exact main c 0 0 (c.length + 2) rfl (Nat.zero_le _) (by omega)
end Go.Tev.S1
namespace Go.Tev
open Go.Abs
def ZrU (x : List UInt8) : List (List UInt8) → List (List UInt8)
  | [] => [x]
  | y :: r => if Op.bytesLess y x then y :: ZrU x r else if y == x then y :: r else x :: y :: r
def ZfU (l : List (List UInt8)) : List (List UInt8) := l.foldl (fun o x => ZrU x o) []
theorem ZsN (x : List UInt8) : ∀ l, (ZrU x l).length ≤ l.length + 1
  | [] => Nat.le_refl _
  | y :: r => by
    have := ZsN x r
    unfold ZrU
    split
    · simp; omega
    · split <;> simp
end Go.Tev
namespace Go.Tev.S1
open Go.Abs Go.Proofs
theorem ZwR (l : List (List UInt8)) : (ZfU l).length ≤ l.length := by
  have : ∀ (l o : List (List UInt8)), (l.foldl (fun o x => ZrU x o) o).length ≤ o.length + l.length := by
    intro l
    induction l with
    | nil => intro o; simp
    | cons x l ih =>
      intro o
      have h1 := ih (ZrU x o)
      have h2 := ZsN x o
      simp only [List.foldl_cons, List.length_cons]
      omega
  simpa [ZfU] using this l []
end Go.Tev.S1
