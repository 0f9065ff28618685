/- A certified evaluator for the walked functions, and their contracts, for the laws of the variables. -/
import Derived.Test.YtnmlodkomklpfaaGreatLE
import Derived.Test.YtnmlodkomklpfaaGreatChecked
import Derived.KernelRfl
import Derived.Test.YtnmlodkomklpfaaGreatLG
set_option linter.unusedVariables false
set_option linter.unusedSimpArgs false
namespace Go.Abs
open Go.Proofs
def ann : FuncId → FA
  | 2 => ⟨1, [], [], [], [0], []⟩
  | 3 => ⟨84, [0, 1, 2, 6, 7, 8, 9, 10, 11, 12, 13, 33, 42], [], [], [14, 16, 19, 23, 27, 38, 52, 57, 63, 73], []⟩
  | 4 => ⟨118, [0, 1, 4, 5, 6, 7, 8, 9, 10, 11, 12, 13, 14, 15, 32, 40, 58, 62, 77, 89, 92, 101], [], [], [16, 18, 36, 54, 71, 99, 116], []⟩
  | 5 => ⟨342, [0, 1, 2, 3, 4, 5, 6, 7, 8, 9, 11, 13, 14, 15, 17, 19, 20, 21, 22, 23, 24, 26, 28, 30, 31, 32, 33, 34, 35, 36, 121, 137, 140], [], [], [37, 38, 39, 42, 44, 47, 51, 55, 59, 63, 67, 70, 74, 77, 80, 84, 88, 92, 96, 100, 104, 106, 108, 109, 111, 112, 114, 128, 135, 159, 165, 169, 173, 177, 180, 184, 187, 193, 197, 200, 204, 206, 208, 214, 221, 231, 235, 236, 240, 241, 272, 278, 285, 287, 296, 298, 312, 332], []⟩
  | 6 => ⟨100, [0, 2, 3, 4, 5, 6, 7, 8, 9, 16, 24, 34, 50, 61, 93], [], [], [10, 12, 20, 43, 46, 57, 67, 89, 97], []⟩
  | 7 => ⟨87, [0, 2, 3, 4, 5, 6, 7, 8, 9, 10, 11, 18, 26, 31, 36, 85], [], [], [12, 14, 22, 36, 43, 51, 56, 82], []⟩
  | 8 => ⟨39, [0, 1, 2, 3], [], [], [4, 7, 8, 9, 11, 15, 18, 22, 26, 34, 35, 37], []⟩
  | 9 => ⟨11, [0, 2], [], [], [4, 8], []⟩
  | 10 => ⟨45, [0, 2, 3, 4, 12, 29], [], [], [20, 36], []⟩
  | 11 => ⟨42, [0, 2, 3, 11, 15, 41], [], [], [9, 23, 31, 39], []⟩
  | 12 => ⟨24, [0, 1, 4, 5, 6, 7, 11, 16], [], [], [9, 14, 20, 21], [21]⟩
  | 13 => ⟨18, [0, 2, 3, 4, 5, 9], [], [], [7, 14, 16, 17], []⟩
  | 14 => ⟨5, [0, 2], [], [], [4], []⟩
  | 15 => ⟨42, [0, 1, 4, 5, 10, 14, 41], [], [], [39], []⟩
  | 16 => ⟨28, [0, 2, 3, 5, 6, 9, 12, 13, 14, 15, 16, 23], [], [], [11, 21, 27], []⟩
  | 17 => ⟨20, [0, 1, 4, 5, 9, 18], [], [], [], []⟩
  | 18 => ⟨42, [0, 1, 4, 5, 10, 14, 41], [], [], [39], []⟩
  | 19 => ⟨9, [0, 1, 4], [], [], [7], []⟩
  | 20 => ⟨24, [0, 1, 2, 6, 7, 8], [], [], [11, 13, 21, 22], []⟩
  | 21 => ⟨24, [0, 1, 2, 6, 7, 8], [], [], [11, 13], []⟩
  | 22 => ⟨35, [0, 2, 4, 12, 13, 14, 15, 16, 33], [], [], [10, 21, 26, 31], []⟩
  | 23 => ⟨18, [0, 2, 3, 5], [], [], [9, 14], []⟩
  | 24 => ⟨12, [0, 2, 3, 4, 8], [], [], [6, 11], []⟩
  | 25 => ⟨26, [0, 1, 4, 5, 10, 14, 25], [], [], [], []⟩
  | 26 => ⟨65, [0, 1, 4, 5, 6, 7, 8, 10, 11, 19, 37, 48, 57], [6], [], [31, 45], []⟩
  | 27 => ⟨47, [0, 1, 4, 5, 6, 15], [], [], [43], []⟩
  | 28 => ⟨29, [0, 2, 3, 4, 8, 18], [], [], [17, 25], []⟩
  | 29 => ⟨35, [0, 2, 3, 7, 34], [], [], [15], []⟩
  | 30 => ⟨13, [0, 2, 5, 9, 12], [], [], [4, 7, 11], []⟩
  | 31 => ⟨33, [0, 2, 3, 4, 8, 32], [], [], [22, 31], []⟩
  | 32 => ⟨37, [0, 2, 3, 4, 8], [], [], [33], []⟩
  | 33 => ⟨17, [0, 2, 3, 6, 10, 14], [], [], [5], []⟩
  | 34 => ⟨31, [0, 1, 4, 5, 6, 7, 8, 12, 15, 28], [], [], [11, 20, 24, 26], [11, 24]⟩
  | 35 => ⟨20, [0, 2, 3, 5, 7, 8, 9, 10], [], [], [], []⟩
  | 36 => ⟨32, [0, 1, 5, 6, 9, 10, 11, 12, 16, 24], [], [], [16, 19, 30], []⟩
  | 37 => ⟨9, [0, 2, 3], [], [], [5, 7], []⟩
  | 38 => ⟨4, [0, 1, 2], [], [1], [], []⟩
  | 39 => ⟨9, [0, 1, 4], [], [], [7], []⟩
  | 40 => ⟨19, [0, 1, 2], [], [], [11, 17], []⟩
  | 41 => ⟨30, [0, 2, 3, 4, 5, 8, 9, 10, 11, 20], [], [], [], []⟩
  | 42 => ⟨25, [0, 2, 3, 5, 6, 7, 8, 9, 21], [], [], [14], []⟩
  | 43 => ⟨118, [0, 2, 3, 4, 5, 6, 7, 9, 11, 12, 13, 14, 16, 17, 18, 19, 21, 22, 23, 30, 32, 36, 39, 40, 41, 42, 53, 60, 62, 71, 72, 89, 95, 96, 97, 98, 108], [19], [], [25, 28, 58, 80, 87], [80]⟩
  | 44 => ⟨30, [0, 2, 3, 5, 6, 7, 8, 9], [], [], [25], []⟩
  | 45 => ⟨25, [0, 2, 3, 4, 5, 6, 14, 23], [], [], [10, 18], []⟩
  | 46 => ⟨21, [0, 2, 3, 4, 5, 8, 15, 19], [], [], [11, 17], []⟩
  | 47 => ⟨11, [0, 2, 3, 4, 6, 9], [], [], [], []⟩
  | 48 => ⟨16, [0, 2], [], [], [], []⟩
  | 49 => ⟨43, [0, 2, 3, 4, 5, 9, 28], [3], [], [26, 35], []⟩
  | 50 => ⟨59, [0, 1, 4, 5, 6, 10, 58], [], [], [19, 55], []⟩
  | 51 => ⟨33, [0, 2, 3, 4, 10, 24], [], [], [], []⟩
  | 52 => ⟨71, [0, 1, 4, 5, 7, 8, 9, 10, 11, 12, 13, 42, 45], [], [], [23, 49], []⟩
  | 53 => ⟨67, [0, 1, 4, 5, 7, 8, 9, 10, 11, 12, 13, 14, 15, 16, 17, 22, 51, 55, 61], [], [], [21, 38, 41, 54, 59], [38, 59]⟩
  | 54 => ⟨53, [0, 1, 4, 5, 7, 8, 9, 11, 12, 13, 14, 15, 16, 21, 44], [5], [], [20, 28, 34, 49], [28, 49]⟩
  | 55 => ⟨34, [0, 1, 2, 3], [], [], [], []⟩
  | 56 => ⟨54, [0, 1, 2, 3, 4, 5, 6, 29, 38, 43], [], [], [9, 27, 37, 53], []⟩
  | 57 => ⟨5, [0, 2], [], [], [4], []⟩
  | 58 => ⟨11, [0, 2], [], [], [9, 10], []⟩
  | 59 => ⟨14, [0, 1, 3, 5, 7, 13], [], [], [12], []⟩
  | 60 => ⟨19, [0, 1, 4, 5, 7, 8, 9, 16], [], [], [16], []⟩
  | 61 => ⟨15, [0, 2], [], [], [4], []⟩
  | 62 => ⟨52, [0, 2, 3, 5, 6, 8, 9, 10, 12, 13, 14, 15, 31, 32, 33, 34], [], [3, 9, 10], [28, 42], []⟩
  | 63 => ⟨9, [0, 2, 3, 6], [], [], [8], []⟩
  | 64 => ⟨36, [0, 2, 3, 4, 5, 6, 7, 8, 14], [4, 5], [], [10, 18, 33], []⟩
  | 65 => ⟨14, [0, 2, 3, 4, 5], [], [], [8], []⟩
  | 66 => ⟨12, [0, 2, 3, 4, 6], [], [], [], []⟩
  | 67 => ⟨17, [0, 2, 13], [], [], [], []⟩
  | 68 => ⟨25, [0, 2, 18], [], [], [4], []⟩
  | 69 => ⟨13, [0, 1, 2, 4, 5, 6, 7], [], [], [], []⟩
  | 70 => ⟨134, [0, 1, 2, 3, 8, 9, 10, 11, 12, 13, 14, 15, 16, 17, 18, 23, 29, 35, 50, 68, 72, 87, 113], [], [], [27, 33, 39, 46, 54, 72, 85, 92, 99, 121, 132], []⟩
  | 71 => ⟨8, [0, 2], [], [], [5, 7], []⟩
  | 72 => ⟨8, [0, 1, 4], [], [], [7], []⟩
  | 73 => ⟨29, [0, 1, 2, 3, 5, 9, 11, 23], [], [], [28], []⟩
  | 74 => ⟨46, [0, 2, 3, 4, 5, 9, 27, 33, 35], [], [], [], []⟩
  | 75 => ⟨28, [0, 1, 4, 7, 19], [], [], [7, 17], []⟩
  | 76 => ⟨138, [0, 1, 4, 5, 6, 7, 8, 9, 10, 14, 21, 33, 70, 79, 86, 93, 112, 121], [], [], [16, 20, 30, 47, 53, 60, 67, 73, 76, 82, 89, 100, 106, 115, 118, 123, 126], []⟩
  | 77 => ⟨67, [0, 1, 2, 3, 8, 9, 10, 11, 12, 29, 42, 44, 56], [10], [], [40, 51], []⟩
  | 78 => ⟨49, [0, 1, 2, 6, 7, 12, 30], [], [], [29], []⟩
  | 79 => ⟨56, [0, 1, 2, 6, 7, 8, 9, 10, 19, 30], [], [], [26, 55], []⟩
  | 80 => ⟨65, [0, 1, 2, 6, 7, 8, 9, 10, 15, 33, 43], [], [7], [19, 36], []⟩
  | 81 => ⟨57, [0, 1, 2, 6, 7, 8, 9, 10, 11, 12, 32, 34, 49, 51, 54], [], [9], [37, 40, 43, 48], []⟩
  | 82 => ⟨32, [0, 1, 2, 6, 7, 13], [], [], [], []⟩
  | 83 => ⟨133, [0, 1, 2, 6, 7, 8, 9, 10, 14, 32, 37, 41, 61, 65, 78, 98, 103, 116], [], [], [30, 77, 115], []⟩
  | 84 => ⟨17, [0, 1, 4], [], [], [6, 9], []⟩
  | 85 => ⟨84, [0, 1, 2, 3, 8, 9, 10, 43, 59, 64], [], [], [41, 58], []⟩
  | 86 => ⟨168, [0, 1, 2, 3, 8, 9, 10, 11, 43, 60, 65, 112, 129, 134], [], [], [42, 58, 111, 127], []⟩
  | 87 => ⟨19, [0, 2, 4, 8], [], [], [], []⟩
  | 88 => ⟨25, [0, 2, 4, 8, 14], [], [], [], []⟩
  | 89 => ⟨18, [0, 1, 4], [], [], [], []⟩
  | 90 => ⟨25, [0, 1, 2, 6], [], [], [], []⟩
  | 91 => ⟨13, [0, 2], [], [], [], []⟩
  | 92 => ⟨12, [0, 1, 4, 8], [], [], [7, 8], []⟩
  | 93 => ⟨94, [0, 1, 4, 5, 6, 7, 8, 9, 19, 31, 40, 47, 61, 75], [], [], [83], []⟩
  | 94 => ⟨13, [0, 2], [], [], [4, 7], []⟩
  | 95 => ⟨16, [0, 1, 4], [], [], [7, 13], []⟩
  | 96 => ⟨49, [0, 1, 4, 5, 6, 7, 8, 18, 36], [], [], [17, 35, 40], []⟩
  | 97 => ⟨36, [0, 1, 4, 8], [], [], [7, 12, 13, 18, 25, 29, 30, 34], []⟩
  | 98 => ⟨27, [0, 1, 4, 5, 14, 20], [], [], [8, 19, 25, 26], []⟩
  | 99 => ⟨43, [0, 1, 4, 5, 6, 7, 8, 24, 36], [], [], [12, 19, 24, 29, 35], []⟩
  | 100 => ⟨46, [0, 1, 4, 5, 6, 7, 8, 18, 23, 35], [], [], [12, 17, 23, 28, 29, 39], []⟩
  | 101 => ⟨22, [0, 2, 3, 4, 6, 8, 10, 12, 14, 16, 18, 20], [], [], [], []⟩
  | 102 => ⟨76, [0, 1, 2, 3, 8, 9, 16, 36, 52], [], [], [35, 51], []⟩
  | 103 => ⟨7, [0, 2], [], [], [5], []⟩
  | 104 => ⟨33, [0, 2], [], [], [], []⟩
  | 105 => ⟨15, [0, 1, 2, 6], [], [], [14], []⟩
  | 106 => ⟨36, [0, 1, 2, 3, 4, 10], [], [], [16, 24, 32], []⟩
  | 107 => ⟨6, [0, 2], [], [], [], []⟩
  | 108 => ⟨12, [0, 1, 4, 8], [], [], [], []⟩
  | 109 => ⟨64, [0, 1, 4, 5, 6, 7, 13, 20, 45, 58], [], [], [14, 19, 43, 51, 57, 58, 62], []⟩
  | 110 => ⟨20, [0, 2, 3], [], [], [5], []⟩
  | 111 => ⟨9, [0, 2], [], [], [], []⟩
  | 112 => ⟨71, [0, 1, 4, 5, 6, 7, 8, 9, 10, 19, 35, 48, 59, 65], [], [], [13, 24, 27, 33, 34, 39, 42, 53, 64, 65, 68], []⟩
  | 113 => ⟨138, [0, 2, 3, 4, 5, 6, 7, 8, 9, 10, 19, 25, 38, 44, 59, 72, 78, 90, 107, 128, 134], [], [], [24, 25, 37, 43, 44], []⟩
  | 114 => ⟨10, [0, 1, 4], [], [], [6, 8], []⟩
  | 115 => ⟨110, [0, 1, 4, 5, 6, 7, 8, 9, 23, 38, 53, 59, 89], [], [], [13, 40, 43, 56, 72, 80, 86, 95], []⟩
  | 116 => ⟨28, [0, 1, 2, 3, 8, 9, 18], [], [], [18], []⟩
  | 117 => ⟨3, [0], [], [], [], []⟩
  | 118 => ⟨20, [0, 2, 4, 15], [], [], [4, 9], []⟩
  | 119 => ⟨73, [0, 2, 16, 19, 25, 37], [], [], [17], []⟩
  | 120 => ⟨13, [0, 2, 8], [], [], [], []⟩
  | 121 => ⟨12, [0, 1, 4, 8], [], [], [7, 8], []⟩
  | 122 => ⟨23, [0, 2, 3, 4, 10], [], [], [19], []⟩
  | 123 => ⟨33, [0, 1, 4, 5, 15, 18], [], [], [18, 22], []⟩
  | 124 => ⟨21, [0, 2], [], [], [], []⟩
  | _ => ⟨0, [], [], [], [], []⟩
theorem A13 : (ann 13).nt = 18 ∧ (ann 13).keep = [0, 2, 3, 4, 5, 9] ∧ (ann 13).take = [] ∧ (ann 13).heapy = [] ∧ (ann 13).frz = [7, 14, 16, 17] ∧ (ann 13).lend = [] := ⟨rfl, rfl, rfl, rfl, rfl, rfl⟩
theorem A38 : (ann 38).nt = 4 ∧ (ann 38).keep = [0, 1, 2] ∧ (ann 38).take = [] ∧ (ann 38).heapy = [1] ∧ (ann 38).frz = [] ∧ (ann 38).lend = [] := ⟨rfl, rfl, rfl, rfl, rfl, rfl⟩
noncomputable def C : Ctx := ⟨Tryz.prog, ann⟩
def Zcu (K : Zaa) : Prop := ∀ (f : Nat) a h, f ∉ [8, 26, 37, 43, 62, 73] → K f a h = none
theorem Zvm : C.ann = ann := rfl
theorem Zuw (a b : Nat) : Nat.beq a b = (a == b) := by rw [Bool.eq_iff_iff]; simp [Nat.beq_eq]
theorem Zvx (a b : Nat) : Nat.ble a b = decide (a ≤ b) := by rw [Bool.eq_iff_iff]; simp [Nat.ble_eq]
theorem Zu2 (a b : Nat) : Nat.blt a b = decide (a < b) := by rw [Bool.eq_iff_iff]; simp [Nat.blt_eq]
theorem Zt4 {i n : Nat} (h : i < n) : idx (i : Int) n = some i := by unfold idx; rw [if_pos ⟨by omega, by omega⟩]; simp
end Go.Abs
namespace Go.Tev.S1
open Go.Abs Go.Proofs
theorem hC (t : Nat) (h : (U.cells t).isSome = true) : C.isAgg t = some (isT t) := by
  by_cases h2 : t = 2
  · subst h2; kernel_rfl
  by_cases h3 : t = 3
  · subst h3; kernel_rfl
  by_cases h4 : t = 4
  · subst h4; kernel_rfl
  by_cases h5 : t = 5
  · subst h5; kernel_rfl
  by_cases h9 : t = 9
  · subst h9; kernel_rfl
  by_cases h22 : t = 22
  · subst h22; kernel_rfl
  by_cases h23 : t = 23
  · subst h23; kernel_rfl
  by_cases h28 : t = 28
  · subst h28; kernel_rfl
  by_cases h31 : t = 31
  · subst h31; kernel_rfl
  by_cases h39 : t = 39
  · subst h39; kernel_rfl
  by_cases h46 : t = 46
  · subst h46; kernel_rfl
  by_cases h49 : t = 49
  · subst h49; kernel_rfl
  by_cases h51 : t = 51
  · subst h51; kernel_rfl
  by_cases h60 : t = 60
  · subst h60; kernel_rfl
  by_cases h62 : t = 62
  · subst h62; kernel_rfl
  by_cases h72 : t = 72
  · subst h72; kernel_rfl
  by_cases h77 : t = 77
  · subst h77; kernel_rfl
  by_cases h78 : t = 78
  · subst h78; kernel_rfl
  by_cases h84 : t = 84
  · subst h84; kernel_rfl
  by_cases h92 : t = 92
  · subst h92; kernel_rfl
  by_cases h107 : t = 107
  · subst h107; kernel_rfl
  change (cells t).isSome = true at h
  unfold cells at h
  split at h <;> first | (exfalso; contradiction) | (cases h; done)
theorem hZ (t : Nat) (cs : List (TV U.X)) (h : U.zcells t = some cs) : ∃ z, C.zero t = some z ∧ dvL U cs = some z.cells ∧ z.cellOk = true ∧ (C.isAgg t = some true → z = .agg z.cells) := by
  by_cases h2 : t = 2
  · subst h2; cases h; exact ⟨.int .i64 0, by kernel_rfl, rfl, rfl, fun h => by rw [hC 2 rfl] at h; cases h⟩
  by_cases h3 : t = 3
  · subst h3; cases h; exact ⟨.int .i64 0, by kernel_rfl, rfl, rfl, fun h => by rw [hC 3 rfl] at h; cases h⟩
  by_cases h4 : t = 4
  · subst h4; cases h; exact ⟨.bool false, by kernel_rfl, rfl, rfl, fun h => by rw [hC 4 rfl] at h; cases h⟩
  by_cases h5 : t = 5
  · subst h5; cases h; exact ⟨.int .u8 0, by kernel_rfl, rfl, rfl, fun h => by rw [hC 5 rfl] at h; cases h⟩
  by_cases h9 : t = 9
  · subst h9; cases h; exact ⟨.str [], by kernel_rfl, rfl, rfl, fun h => by rw [hC 9 rfl] at h; cases h⟩
  by_cases h22 : t = 22
  · subst h22; cases h; exact ⟨.slc [], by kernel_rfl, rfl, rfl, fun h => by rw [hC 22 rfl] at h; cases h⟩
  by_cases h23 : t = 23
  · subst h23; cases h; exact ⟨.slc [], by kernel_rfl, rfl, rfl, fun h => by rw [hC 23 rfl] at h; cases h⟩
  by_cases h28 : t = 28
  · subst h28; cases h; exact ⟨.int .i64 0, by kernel_rfl, rfl, rfl, fun h => by rw [hC 28 rfl] at h; cases h⟩
  by_cases h31 : t = 31
  · subst h31; cases h; exact ⟨.slc [], by kernel_rfl, rfl, rfl, fun h => by rw [hC 31 rfl] at h; cases h⟩
  by_cases h39 : t = 39
  · subst h39; cases h; exact ⟨.agg [.str [], .slc []], by kernel_rfl, rfl, rfl, fun h => rfl⟩
  by_cases h46 : t = 46
  · subst h46; cases h; exact ⟨.slc [], by kernel_rfl, rfl, rfl, fun h => by rw [hC 46 rfl] at h; cases h⟩
  by_cases h49 : t = 49
  · subst h49; cases h; exact ⟨.agg [.int .u8 0, .str [], .int .i64 0, .str [], .bool false], by kernel_rfl, rfl, rfl, fun h => rfl⟩
  by_cases h51 : t = 51
  · subst h51; cases h; exact ⟨.agg [.int .u8 0, .str [], .int .i64 0, .str [], .bool false, .slc []], by kernel_rfl, rfl, rfl, fun h => rfl⟩
  by_cases h60 : t = 60
  · subst h60; cases h; exact ⟨.nilm, by kernel_rfl, rfl, rfl, fun h => by rw [hC 60 rfl] at h; cases h⟩
  by_cases h62 : t = 62
  · subst h62; cases h; exact ⟨.nilm, by kernel_rfl, rfl, rfl, fun h => by rw [hC 62 rfl] at h; cases h⟩
  by_cases h72 : t = 72
  · subst h72; cases h; exact ⟨.slc [], by kernel_rfl, rfl, rfl, fun h => by rw [hC 72 rfl] at h; cases h⟩
  by_cases h77 : t = 77
  · subst h77; cases h; exact ⟨.slc [], by kernel_rfl, rfl, rfl, fun h => by rw [hC 77 rfl] at h; cases h⟩
  by_cases h78 : t = 78
  · subst h78; cases h; exact ⟨.slc [], by kernel_rfl, rfl, rfl, fun h => by rw [hC 78 rfl] at h; cases h⟩
  by_cases h84 : t = 84
  · subst h84; cases h; exact ⟨.agg [.int .i64 0, .int .i64 0, .bool false], by kernel_rfl, rfl, rfl, fun h => rfl⟩
  by_cases h92 : t = 92
  · subst h92; cases h; exact ⟨.slc [], by kernel_rfl, rfl, rfl, fun h => by rw [hC 92 rfl] at h; cases h⟩
  by_cases h107 : t = 107
  · subst h107; cases h; exact ⟨.nilm, by kernel_rfl, rfl, rfl, fun h => by rw [hC 107 rfl] at h; cases h⟩
  change zcells t = some cs at h
  unfold zcells at h
  split at h <;> first | (exfalso; contradiction) | (cases h; done)
theorem hD (t : Nat) (h : U.dok t = true) : C.zero t = some (U.enc t (U.dflt t)) := by
  by_cases h2 : t = 2
  · subst h2; first | (cases h; done) | kernel_rfl
  by_cases h3 : t = 3
  · subst h3; first | (cases h; done) | kernel_rfl
  by_cases h4 : t = 4
  · subst h4; first | (cases h; done) | kernel_rfl
  by_cases h5 : t = 5
  · subst h5; first | (cases h; done) | kernel_rfl
  by_cases h9 : t = 9
  · subst h9; first | (cases h; done) | kernel_rfl
  by_cases h22 : t = 22
  · subst h22; first | (cases h; done) | kernel_rfl
  by_cases h23 : t = 23
  · subst h23; first | (cases h; done) | kernel_rfl
  by_cases h28 : t = 28
  · subst h28; first | (cases h; done) | kernel_rfl
  by_cases h31 : t = 31
  · subst h31; first | (cases h; done) | kernel_rfl
  by_cases h39 : t = 39
  · subst h39; first | (cases h; done) | kernel_rfl
  by_cases h46 : t = 46
  · subst h46; first | (cases h; done) | kernel_rfl
  by_cases h49 : t = 49
  · subst h49; first | (cases h; done) | kernel_rfl
  by_cases h51 : t = 51
  · subst h51; first | (cases h; done) | kernel_rfl
  by_cases h60 : t = 60
  · subst h60; first | (cases h; done) | kernel_rfl
  by_cases h62 : t = 62
  · subst h62; first | (cases h; done) | kernel_rfl
  by_cases h72 : t = 72
  · subst h72; first | (cases h; done) | kernel_rfl
  by_cases h77 : t = 77
  · subst h77; first | (cases h; done) | kernel_rfl
  by_cases h78 : t = 78
  · subst h78; first | (cases h; done) | kernel_rfl
  by_cases h84 : t = 84
  · subst h84; first | (cases h; done) | kernel_rfl
  by_cases h92 : t = 92
  · subst h92; first | (cases h; done) | kernel_rfl
  by_cases h107 : t = 107
  · subst h107; first | (cases h; done) | kernel_rfl
  change (tyB t).dok = true at h
  unfold tyB at h
  split at h <;> first | (exfalso; contradiction) | (cases h; done)
theorem hE (t : Nat) (f : U.X t → U.X t → Bool) (h : U.eqT t = some f) : C.P.eqGuardType C.P.depth t = false ∧ ∀ a b, U.enc t a = .agg (U.enc t a).cells ∧ ZmL C 100 t (U.enc t a) (U.enc t b) = some (f a b) := by
  by_cases h49 : t = 49
  · subst h49; cases h; refine ⟨by kernel_rfl, fun a b => ⟨rfl, ?_⟩⟩
    have key : ∀ b0 b1 b2 b3 b4 : Bool, (bif b0 then bif b1 then bif b2 then bif b3 then bif b4 then some true else some false else some false else some false else some false else some false) = some (b0 && b1 && b2 && b3 && b4) := by decide
    exact (show _ = _ by kernel_rfl : ZmL C 100 49 (U.enc 49 a) (U.enc 49 b) = (bif (a : Tok).k == (b : Tok).k then bif (a : Tok).t == (b : Tok).t then bif (a : Tok).n == (b : Tok).n then bif (a : Tok).u == (b : Tok).u then bif (a : Tok).f == (b : Tok).f then some true else some false else some false else some false else some false else some false)).trans (key _ _ _ _ _)
  by_cases h84 : t = 84
  · subst h84; cases h; refine ⟨by kernel_rfl, fun a b => ⟨rfl, ?_⟩⟩
    have key : ∀ b0 b1 b2 : Bool, (bif b0 then bif b1 then bif b2 then some true else some false else some false else some false) = some (b0 && b1 && b2) := by decide
    exact (show _ = _ by kernel_rfl : ZmL C 100 84 (U.enc 84 a) (U.enc 84 b) = (bif (a : Fnd).d == (b : Fnd).d then bif (a : Fnd).t == (b : Fnd).t then bif (a : Fnd).b == (b : Fnd).b then some true else some false else some false else some false)).trans (key _ _ _)
  change eqT t = some f at h
  unfold eqT at h
  split at h <;> first | (exfalso; contradiction) | (cases h; done)
theorem ok : U.Ok C where
  inj := Yem
  prj := YdI
  pack := Ybq
  cells := Zz1
  csz := Yec
  ok := Yfh
  noagg := ZzS C hC
  agg := Ydr C hC
  zcells := hZ
  dok := hD
  keq := Yeb
  noMap := ZyH
  eqT := hE
  bytes := Zyj
end Go.Tev.S1
namespace Go.Tev.S1
open Go.Abs Go.Proofs
abbrev T1a : Type := Int → Option Int
abbrev T1b : Type := (List Val) × Int → Option Fnd
abbrev T1c : Type := (List Val) → Option Int
abbrev T1f : Type := (List Val) × Int → Option Int
abbrev T1g : Type := (List Val) × (List Val) → Option Bool
abbrev T1h : Type := (List UInt8) × (List UInt8) → Option Bool
abbrev P1a (K : Zaa) (t : T1a) : Prop := Zaj U (Zab C K) 66 ⟨true, [.ty 5], [5], t⟩
abbrev P1b (K : Zaa) (t : T1b) : Prop := Zaj U (Zab C K) 52 ⟨true, [.ty 22, .ty 5], [84], t⟩
abbrev P1c (K : Zaa) (t : T1a) : Prop := Zaj U (Zab C K) 47 ⟨true, [.ty 5], [5], t⟩
abbrev P1d (K : Zaa) (t : T1c) : Prop := Zaj U (Zab C K) 28 ⟨true, [.ty 22], [3], t⟩
abbrev P1g (K : Zaa) (t : T1f) : Prop := Zaj U (Zab C K) 27 ⟨true, [.ty 22, .ty 3], [3], t⟩
abbrev P1h (K : Zaa) (t : T1g) : Prop := Zaj U (Zab C K) 15 ⟨true, [.ty 22, .ty 22], [4], t⟩
abbrev P1i (K : Zaa) (t : T1h) : Prop := Zaj U (Zab C K) 89 ⟨true, [.ty 9, .ty 9], [4], t⟩
abbrev P1j (K : Zaa) (t : T1h) : Prop := Zaj U (Zab C K) 72 ⟨true, [.ty 9, .ty 9], [4], t⟩
def Zf3 (n : Nat) (p0 : Int) : Option Int :=
  cond (p0 == (2 : Int))
  (some (22 : Int))
  (Option.bind (some (cond (p0 == (21 : Int)) (p0 == (21 : Int)) (p0 == (23 : Int)))) fun m1 =>
  Option.bind (some (cond (p0 == (19 : Int)) (p0 == (19 : Int)) m1)) fun m2 =>
  cond m2
  (some (IntKind.u8.wrap (p0 + (1 : Int))))
  (some (0 : Int)))
abbrev ZnV : List (Nat × TCall X) := []
noncomputable abbrev Zer : Cx := ⟨C, U, ZnV , [], fun _ => []⟩
theorem ZmG : okF (C.ann 66) Tryz.f66 1 = true := by kernel_rfl
noncomputable abbrev Zgn (n : Nat) : ZeT (Zer ) (PX X [5]) := []
theorem Zpe (n : Nat) : ∀ a, fnL (Zer ) true 66 Tryz.f66 [.ty 5] [5] (Zgn n) a = Zf3 n a := by
  intro a
  kernel_rfl
theorem ZmS {K : Zaa} : CallsOk (Zer ) (Zab C K) :=
  ⟨ZaA, Zaz⟩
theorem Zjl {K : Zaa} (hK : ∀ args h, K 66 args h = none) (t : PX X (AK.tys [.ty 5]) → Option (PX X [5])) (h : ∀ a r, t a = some r → ∃ n, Zf3 n a = some r) : Zaj U (Zab C K) 66 ⟨true, [.ty 5], [5], t⟩ := by
  refine Zav (x := Zer ) (ak := [.ty 5]) (rts := [5]) (dir := true) ok (ZmS ) hK Tryz.func66 ZmG fun a r hr => ?_
  obtain ⟨n, hn⟩ := h a r hr
  exact ⟨n, Zgn n, (Zau (show Zaq 0 (Zac Tryz.f66) = [] by kernel_rfl)), (Zpe n a).trans hn⟩
def Ze1 (n : Nat) (p0 : Int) : Option Int :=
  cond (p0 == (19 : Int))
  (some (20 : Int))
  (Option.bind (some (cond (p0 == (21 : Int)) (p0 == (21 : Int)) (p0 == (2 : Int)))) fun m1 =>
  cond m1
  (some (22 : Int))
  (cond (p0 == (23 : Int))
  (some (24 : Int))
  (some (0 : Int))))
abbrev ZmP : List (Nat × TCall X) := []
noncomputable abbrev ZdS : Cx := ⟨C, U, ZmP , [], fun _ => []⟩
theorem ZlE : okF (C.ann 47) Tryz.f47 1 = true := by kernel_rfl
noncomputable abbrev ZfH (n : Nat) : ZeT (ZdS ) (PX X [5]) := []
theorem Zmo (n : Nat) : ∀ a, fnL (ZdS ) true 47 Tryz.f47 [.ty 5] [5] (ZfH n) a = Ze1 n a := by
  intro a
  kernel_rfl
theorem ZkZ {K : Zaa} : CallsOk (ZdS ) (Zab C K) :=
  ⟨ZaA, Zaz⟩
theorem Zik {K : Zaa} (hK : ∀ args h, K 47 args h = none) (t : PX X (AK.tys [.ty 5]) → Option (PX X [5])) (h : ∀ a r, t a = some r → ∃ n, Ze1 n a = some r) : Zaj U (Zab C K) 47 ⟨true, [.ty 5], [5], t⟩ := by
  refine Zav (x := ZdS ) (ak := [.ty 5]) (rts := [5]) (dir := true) ok (ZkZ ) hK Tryz.func47 ZlE fun a r hr => ?_
  obtain ⟨n, hn⟩ := h a r hr
  exact ⟨n, ZfH n, (Zau (show Zaq 0 (Zac Tryz.f47) = [] by kernel_rfl)), (Zmo n a).trans hn⟩
def Ze9 (qa : T1a) (qb : T1b) {R : Type} (n : Nat) (a1 : Int) (a10 : List Val) (a11 : Int) (kx0 : (Int × Int × Bool) → (Int × Int × Bool) → Option R) (y4 : Int × Int × Bool) (y5 : Int × Int × Bool) (y12 : Int) (k : (Int × Int × Bool) → (Int × Int × Bool) → Int → Option R) : Option R :=
  cond (decide (y12 < a11))
  (Option.bind (ZeS a10 y12) fun x3 =>
  Option.bind (qa x3.tok.k) fun r4 =>
  Option.bind (some (cond (a1 != (0 : Int)) (x3.tok.k == a1) false)) fun m5 =>
  Option.bind (cond (!m5) (some (cond (r4 == (0 : Int)) (decide ((x3.l.length : Int) > (0 : Int))) false)) (some (decide ((x3.l.length : Int) > (0 : Int))))) fun m6 =>
  Option.bind (some (cond m5 true m6)) fun m7 =>
  Option.bind (some (cond m7 y4.1 y4.1)) fun m8 =>
  Option.bind (some (cond m7 y4.2.1 y4.2.1)) fun m9 =>
  Option.bind (some (cond m7 y4.2.2 y4.2.2)) fun m10 =>
  Option.bind (some (cond m7 y5.1 y5.1)) fun m11 =>
  Option.bind (some (cond m7 (IntKind.i64.wrap (y5.2.1 + (1 : Int))) (IntKind.i64.wrap (y5.2.1 + (1 : Int))))) fun m12 =>
  Option.bind (some (cond m7 true y5.2.2)) fun m13 =>
  Option.bind (some (cond m7 x3.tok.k x3.tok.k)) fun m14 =>
  Option.bind (some (cond m7 x3.tok.t x3.tok.t)) fun m15 =>
  Option.bind (some (cond m7 x3.tok.n x3.tok.n)) fun m16 =>
  Option.bind (some (cond m7 x3.tok.u x3.tok.u)) fun m17 =>
  Option.bind (some (cond m7 x3.tok.f x3.tok.f)) fun m18 =>
  Option.bind (some (cond m7 x3.l x3.l)) fun m19 =>
  cond (r4 == (0 : Int))
  (k (m8, m9, m10) (m11, m12, m13) (IntKind.i64.wrap (y12 + (1 : Int))))
  (Option.bind (qb (m19, r4)) fun r20 =>
  Option.bind (some (cond m13 true r20.b)) fun m21 =>
  k (m8, m9, m10) ((if IntKind.i64.wrap (r20.d + (1 : Int)) > m11 then IntKind.i64.wrap (r20.d + (1 : Int)) else m11), IntKind.i64.wrap ((IntKind.i64.wrap (m12 + r20.t)) + (1 : Int)), m21) (IntKind.i64.wrap (y12 + (1 : Int)))))
  (kx0 (y4.1, y4.2.1, y4.2.2) (y5.1, y5.2.1, y5.2.2))
def Zi4 (qa : T1a) (qb : T1b) (n : Nat) (p0 : List Val) (p1 : Int) : Option Fnd :=
  ZoY (Ze9 qa qb n p1 p0 (p0.length : Int) (fun z1 z2 =>
  some (Fnd.mk z2.1 z2.2.1 z2.2.2))) n ((0 : Int), (0 : Int), false) ((0 : Int), (0 : Int), false) (0 : Int)
abbrev Zss (qa : T1a) (qb : T1b) : List (Nat × TCall X) := [(66, ⟨true, [.ty 5], [5], qa⟩), (52, ⟨true, [.ty 22, .ty 5], [84], qb⟩)]
noncomputable abbrev Zc2 (qa : T1a) (qb : T1b) : Cx := ⟨C, U, Zss qa qb, [], fun _ => []⟩
theorem ZqR : okF (C.ann 52) Tryz.f52 2 = true := by kernel_rfl
abbrev nest_look_L0_D : LD := ⟨0, [.val 1 5, .val 10 22, .val 11 2], [.box 4 [2, 2, 4], .box 5 [2, 2, 4], .val 12 2], [(0, [.box 4 [2, 2, 4], .box 5 [2, 2, 4]])], []⟩
abbrev ZdT (qa : T1a) (qb : T1b) (n : Nat) : LG U (PX X [84]) nest_look_L0_D := fun c kx kr y k => Ze9 qa qb n c.1 c.2.1 c.2.2.1 (fun z0 z1 => kx 0 (z0, z1, ())) y.1 y.2.1 y.2.2.1 (fun z0 z1 z2 => k (z0, z1, z2, ()))
noncomputable abbrev ZdZ (qa : T1a) (qb : T1b) (n : Nat) : ZeT (Zc2 qa qb) (PX X [84]) := [(0, Zfk U nest_look_L0_D (ZdT qa qb n) n)]
theorem Zmz (qa : T1a) (qb : T1b) (n : Nat) : ∀ c kx kr y k1, evL (Zc2 qa qb) (ann 52) (ZdZ qa qb n) 0 (Zar (Zac Tryz.f52) 0) (ZeE U nest_look_L0_D kx kr k1) (encS U nest_look_L0_D.cap nest_look_L0_D.din c y) = ZdT qa qb n c (fun i z => kx i c z) kr y (fun y2 => k1 c y2) := by
  intro c kx kr y k1
  kernel_rfl
theorem ZrC (qa : T1a) (qb : T1b) (n : Nat) : ∀ a, fnL (Zc2 qa qb) true 52 Tryz.f52 [.ty 22, .ty 5] [84] (ZdZ qa qb n) a = Zi4 qa qb n a.1 a.2 := by
  intro a
  kernel_rfl
theorem Zkg {K : Zaa} (qa : T1a) (qb : T1b) (h0 : P1a K qa) (h1 : P1b K qb) : CallsOk (Zc2 qa qb) (Zab C K) :=
  ⟨(Zag h0 (Zag h1 ZaA)), Zaz⟩
theorem Zkq {K : Zaa} (qa : T1a) (qb : T1b) (h0 : P1a K qa) (h1 : P1b K qb) (n : Nat) (b0 : Base) (bn0 : b0.nr ≤ 0) : Law (Zc2 qa qb) b0 (Zab C K) (ann 52) n (Zar (Zac Tryz.f52) 0) (Zfk U nest_look_L0_D (ZdT qa qb n) n) :=
  Zda (x := Zc2 qa qb) (id := 0) ok (Zkg qa qb h0 h1) (sums := ZdZ qa qb n) (Zau (show Zaq 0 (Zar (Zac Tryz.f52) 0) = [] by kernel_rfl)) nest_look_L0_D bn0 (ZdT qa qb n) (Zmz qa qb n)
theorem Zlz {K : Zaa} (hK : ∀ args h, K 52 args h = none) (qa : T1a) (qb : T1b) (h0 : P1a K qa) (h1 : P1b K qb) (t : PX X (AK.tys [.ty 22, .ty 5]) → Option (PX X [84])) (h : ∀ a r, t a = some r → ∃ n, Zi4 qa qb n a.1 a.2 = some r) : Zaj U (Zab C K) 52 ⟨true, [.ty 22, .ty 5], [84], t⟩ := by
  refine Zav (x := Zc2 qa qb) (ak := [.ty 22, .ty 5]) (rts := [84]) (dir := true) ok (Zkg qa qb h0 h1) hK Tryz.func52 ZqR fun a r hr => ?_
  obtain ⟨n, hn⟩ := h a r hr
  exact ⟨n, ZdZ qa qb n, (Zbm (ids := [0]) (by kernel_rfl) (by decide) (fun i hi => by
    simp only [List.mem_cons, List.not_mem_nil, or_false] at hi
    rcases hi with rfl
    · exact Zbk (c2 := Zar (Zac Tryz.f52) 0) (by kernel_rfl) (by kernel_rfl) (Zkq qa qb h0 h1 _ _ (Nat.le_refl _))
    )), (ZrC qa qb n a).trans hn⟩
def Zhl (qb : T1b) (n : Nat) (p0 : List Val) : Option Int :=
  Option.bind (qb (p0, (0 : Int))) fun r1 =>
  cond (decide (r1.d > (16 : Int)))
  (some (20 : Int))
  (cond (decide (r1.t > (1500 : Int)))
  (some (4 : Int))
  (cond r1.b
  (some (8 : Int))
  (some (0 : Int))))
abbrev Zp2 (qb : T1b) : List (Nat × TCall X) := [(52, ⟨true, [.ty 22, .ty 5], [84], qb⟩)]
noncomputable abbrev ZeY (qb : T1b) : Cx := ⟨C, U, Zp2 qb, [], fun _ => []⟩
theorem ZoK : okF (C.ann 33) Tryz.f33 1 = true := by kernel_rfl
noncomputable abbrev ZgW (qb : T1b) (n : Nat) : ZeT (ZeY qb) (PX X [28]) := []
theorem ZpL (qb : T1b) (n : Nat) : ∀ a, fnL (ZeY qb) true 33 Tryz.f33 [.ty 22] [28] (ZgW qb n) a = Zhl qb n a := by
  intro a
  kernel_rfl
theorem ZoF {K : Zaa} (qb : T1b) (h0 : P1b K qb) : CallsOk (ZeY qb) (Zab C K) :=
  ⟨(Zag h0 ZaA), Zaz⟩
theorem Zko {K : Zaa} (hK : ∀ args h, K 33 args h = none) (qb : T1b) (h0 : P1b K qb) (t : PX X (AK.tys [.ty 22]) → Option (PX X [28])) (h : ∀ a r, t a = some r → ∃ n, Zhl qb n a = some r) : Zaj U (Zab C K) 33 ⟨true, [.ty 22], [28], t⟩ := by
  refine Zav (x := ZeY qb) (ak := [.ty 22]) (rts := [28]) (dir := true) ok (ZoF qb h0) hK Tryz.func33 ZoK fun a r hr => ?_
  obtain ⟨n, hn⟩ := h a r hr
  exact ⟨n, ZgW qb n, (Zau (show Zaq 0 (Zac Tryz.f33) = [] by kernel_rfl)), (ZpL qb n a).trans hn⟩
def Zeh (qc : T1a) (qd : T1c) {R : Type} (n : Nat) (a0 : List Val) (a2 : Int) (kx0 : Int → Option R) (y3 : Int) (y4 : Int) (k : Int → Int → Option R) : Option R :=
  cond (decide (y4 < (a0.length : Int)))
  (Option.bind (ZeS a0 y4) fun x2 =>
  Option.bind (qc x2.tok.k) fun r3 =>
  Option.bind (cond (r3 != (0 : Int)) (ZeS a0 y4) (some Ybu)) fun x4 =>
  Option.bind (cond (r3 != (0 : Int)) (qd x4.l) (some (0 : Int))) fun r5 =>
  Option.bind (some (cond (r3 != (0 : Int)) (if IntKind.i64.wrap ((1 : Int) + r5) > y3 then IntKind.i64.wrap ((1 : Int) + r5) else y3) y3)) fun m6 =>
  k m6 (IntKind.i64.wrap (y4 + (1 : Int))))
  (kx0 y3)
def Zg1 (qc : T1a) (qd : T1c) (n : Nat) (p0 : List Val) : Option Int :=
  Zgb (Zeh qc qd n p0 (0 : Int) (fun z1 =>
  some z1)) n (0 : Int) (0 : Int)
abbrev Zqz (qc : T1a) (qd : T1c) : List (Nat × TCall X) := [(47, ⟨true, [.ty 5], [5], qc⟩), (28, ⟨true, [.ty 22], [3], qd⟩)]
noncomputable abbrev Zcg (qc : T1a) (qd : T1c) : Cx := ⟨C, U, Zqz qc qd, [], fun _ => []⟩
theorem Zoh : okF (C.ann 28) Tryz.f28 1 = true := by kernel_rfl
abbrev ref04_Deep_L0_D : LD := ⟨0, [.val 0 22, .val 2 2], [.val 3 2, .val 4 2], [(0, [.val 3 2])], []⟩
abbrev Zds (qc : T1a) (qd : T1c) (n : Nat) : LG U (PX X [3]) ref04_Deep_L0_D := fun c kx kr y k => Zeh qc qd n c.1 c.2.1 (fun z0 => kx 0 (z0, ())) y.1 y.2.1 (fun z0 z1 => k (z0, z1, ()))
noncomputable abbrev Zdm (qc : T1a) (qd : T1c) (n : Nat) : ZeT (Zcg qc qd) (PX X [3]) := [(0, Zfk U ref04_Deep_L0_D (Zds qc qd n) n)]
theorem Zl6 (qc : T1a) (qd : T1c) (n : Nat) : ∀ c kx kr y k1, evL (Zcg qc qd) (ann 28) (Zdm qc qd n) 0 (Zar (Zac Tryz.f28) 0) (ZeE U ref04_Deep_L0_D kx kr k1) (encS U ref04_Deep_L0_D.cap ref04_Deep_L0_D.din c y) = Zds qc qd n c (fun i z => kx i c z) kr y (fun y2 => k1 c y2) := by
  intro c kx kr y k1
  kernel_rfl
theorem ZqQ (qc : T1a) (qd : T1c) (n : Nat) : ∀ a, fnL (Zcg qc qd) true 28 Tryz.f28 [.ty 22] [3] (Zdm qc qd n) a = Zg1 qc qd n a := by
  intro a
  kernel_rfl
theorem Zie {K : Zaa} (qc : T1a) (qd : T1c) (h0 : P1c K qc) (h1 : P1d K qd) : CallsOk (Zcg qc qd) (Zab C K) :=
  ⟨(Zag h0 (Zag h1 ZaA)), Zaz⟩
theorem ZjB {K : Zaa} (qc : T1a) (qd : T1c) (h0 : P1c K qc) (h1 : P1d K qd) (n : Nat) (b0 : Base) (bn0 : b0.nr ≤ 0) : Law (Zcg qc qd) b0 (Zab C K) (ann 28) n (Zar (Zac Tryz.f28) 0) (Zfk U ref04_Deep_L0_D (Zds qc qd n) n) :=
  Zda (x := Zcg qc qd) (id := 0) ok (Zie qc qd h0 h1) (sums := Zdm qc qd n) (Zau (show Zaq 0 (Zar (Zac Tryz.f28) 0) = [] by kernel_rfl)) ref04_Deep_L0_D bn0 (Zds qc qd n) (Zl6 qc qd n)
theorem Zkw {K : Zaa} (hK : ∀ args h, K 28 args h = none) (qc : T1a) (qd : T1c) (h0 : P1c K qc) (h1 : P1d K qd) (t : PX X (AK.tys [.ty 22]) → Option (PX X [3])) (h : ∀ a r, t a = some r → ∃ n, Zg1 qc qd n a = some r) : Zaj U (Zab C K) 28 ⟨true, [.ty 22], [3], t⟩ := by
  refine Zav (x := Zcg qc qd) (ak := [.ty 22]) (rts := [3]) (dir := true) ok (Zie qc qd h0 h1) hK Tryz.func28 Zoh fun a r hr => ?_
  obtain ⟨n, hn⟩ := h a r hr
  exact ⟨n, Zdm qc qd n, (Zbm (ids := [0]) (by kernel_rfl) (by decide) (fun i hi => by
    simp only [List.mem_cons, List.not_mem_nil, or_false] at hi
    rcases hi with rfl
    · exact Zbk (c2 := Zar (Zac Tryz.f28) 0) (by kernel_rfl) (by kernel_rfl) (ZjB qc qd h0 h1 _ _ (Nat.le_refl _))
    )), (ZqQ qc qd n a).trans hn⟩
def Zf5 (qg : T1f) (qd : T1c) (n : Nat) (p0 : List Val) : Option Bool :=
  Option.bind (qg (p0, (300 : Int))) fun r1 =>
  Option.bind (cond (!(decide (r1 > (300 : Int)))) (qd p0) (some (0 : Int))) fun r2 =>
  Option.bind (some (cond (decide (r1 > (300 : Int))) true (decide (r2 > (40 : Int))))) fun m3 =>
  some m3
abbrev ZoR (qg : T1f) (qd : T1c) : List (Nat × TCall X) := [(27, ⟨true, [.ty 22, .ty 3], [3], qg⟩), (28, ⟨true, [.ty 22], [3], qd⟩)]
noncomputable abbrev Zeu (qg : T1f) (qd : T1c) : Cx := ⟨C, U, ZoR qg qd, [], fun _ => []⟩
theorem ZmK : okF (C.ann 9) Tryz.f9 1 = true := by kernel_rfl
noncomputable abbrev Zgj (qg : T1f) (qd : T1c) (n : Nat) : ZeT (Zeu qg qd) (PX X [4]) := []
theorem Zo9 (qg : T1f) (qd : T1c) (n : Nat) : ∀ a, fnL (Zeu qg qd) true 9 Tryz.f9 [.ty 22] [4] (Zgj qg qd n) a = Zf5 qg qd n a := by
  intro a
  kernel_rfl
theorem Zmn {K : Zaa} (qg : T1f) (qd : T1c) (h0 : P1g K qg) (h1 : P1d K qd) : CallsOk (Zeu qg qd) (Zab C K) :=
  ⟨(Zag h0 (Zag h1 ZaA)), Zaz⟩
theorem ZjQ {K : Zaa} (hK : ∀ args h, K 9 args h = none) (qg : T1f) (qd : T1c) (h0 : P1g K qg) (h1 : P1d K qd) (t : PX X (AK.tys [.ty 22]) → Option (PX X [4])) (h : ∀ a r, t a = some r → ∃ n, Zf5 qg qd n a = some r) : Zaj U (Zab C K) 9 ⟨true, [.ty 22], [4], t⟩ := by
  refine Zav (x := Zeu qg qd) (ak := [.ty 22]) (rts := [4]) (dir := true) ok (Zmn qg qd h0 h1) hK Tryz.func9 ZmK fun a r hr => ?_
  obtain ⟨n, hn⟩ := h a r hr
  exact ⟨n, Zgj qg qd n, (Zau (show Zaq 0 (Zac Tryz.f9) = [] by kernel_rfl)), (Zo9 qg qd n a).trans hn⟩
def ZcA (qg : T1f) {R : Type} (n : Nat) (a0 : List Val) (a1 : Int) (a4 : Int) (kx0 : Int → Option R) (y5 : Int) (y6 : Int) (k : Int → Int → Option R) : Option R :=
  Option.bind (some (cond (decide (y6 < (a0.length : Int))) (decide (y5 ≤ a1)) false)) fun m2 =>
  cond m2
  (Option.bind (ZeS a0 y6) fun x3 =>
  Option.bind (ZeS a0 y6) fun x4 =>
  Option.bind (ZeS a0 y6) fun x5 =>
  Option.bind (qg (x5.l, IntKind.i64.wrap (a1 - y5))) fun r6 =>
  k (IntKind.i64.wrap (y5 + (IntKind.i64.wrap ((IntKind.i64.wrap ((IntKind.i64.wrap ((1 : Int) + (x3.tok.t.length : Int))) + (x4.tok.u.length : Int))) + r6)))) (IntKind.i64.wrap (y6 + (1 : Int))))
  (kx0 y5)
def Zhk (qg : T1f) (n : Nat) (p0 : List Val) (p1 : Int) : Option Int :=
  Zgb (ZcA qg n p0 p1 (0 : Int) (fun z1 =>
  some z1)) n (0 : Int) (0 : Int)
abbrev ZqX (qg : T1f) : List (Nat × TCall X) := [(27, ⟨true, [.ty 22, .ty 3], [3], qg⟩)]
noncomputable abbrev Zci (qg : T1f) : Cx := ⟨C, U, ZqX qg, [], fun _ => []⟩
theorem ZnT : okF (C.ann 27) Tryz.f27 2 = true := by kernel_rfl
abbrev ref04_Size_L0_D : LD := ⟨0, [.val 0 22, .val 1 2, .val 4 2], [.val 5 2, .val 6 2], [(0, [.val 5 2])], []⟩
abbrev Zdd (qg : T1f) (n : Nat) : LG U (PX X [3]) ref04_Size_L0_D := fun c kx kr y k => ZcA qg n c.1 c.2.1 c.2.2.1 (fun z0 => kx 0 (z0, ())) y.1 y.2.1 (fun z0 z1 => k (z0, z1, ()))
noncomputable abbrev Zdc (qg : T1f) (n : Nat) : ZeT (Zci qg) (PX X [3]) := [(0, Zfk U ref04_Size_L0_D (Zdd qg n) n)]
theorem Zlh (qg : T1f) (n : Nat) : ∀ c kx kr y k1, evL (Zci qg) (ann 27) (Zdc qg n) 0 (Zar (Zac Tryz.f27) 0) (ZeE U ref04_Size_L0_D kx kr k1) (encS U ref04_Size_L0_D.cap ref04_Size_L0_D.din c y) = Zdd qg n c (fun i z => kx i c z) kr y (fun y2 => k1 c y2) := by
  intro c kx kr y k1
  kernel_rfl
theorem ZqP (qg : T1f) (n : Nat) : ∀ a, fnL (Zci qg) true 27 Tryz.f27 [.ty 22, .ty 3] [3] (Zdc qg n) a = Zhk qg n a.1 a.2 := by
  intro a
  kernel_rfl
theorem ZiF {K : Zaa} (qg : T1f) (h0 : P1g K qg) : CallsOk (Zci qg) (Zab C K) :=
  ⟨(Zag h0 ZaA), Zaz⟩
theorem ZjV {K : Zaa} (qg : T1f) (h0 : P1g K qg) (n : Nat) (b0 : Base) (bn0 : b0.nr ≤ 0) : Law (Zci qg) b0 (Zab C K) (ann 27) n (Zar (Zac Tryz.f27) 0) (Zfk U ref04_Size_L0_D (Zdd qg n) n) :=
  Zda (x := Zci qg) (id := 0) ok (ZiF qg h0) (sums := Zdc qg n) (Zau (show Zaq 0 (Zar (Zac Tryz.f27) 0) = [] by kernel_rfl)) ref04_Size_L0_D bn0 (Zdd qg n) (Zlh qg n)
theorem Zkz {K : Zaa} (hK : ∀ args h, K 27 args h = none) (qg : T1f) (h0 : P1g K qg) (t : PX X (AK.tys [.ty 22, .ty 3]) → Option (PX X [3])) (h : ∀ a r, t a = some r → ∃ n, Zhk qg n a.1 a.2 = some r) : Zaj U (Zab C K) 27 ⟨true, [.ty 22, .ty 3], [3], t⟩ := by
  refine Zav (x := Zci qg) (ak := [.ty 22, .ty 3]) (rts := [3]) (dir := true) ok (ZiF qg h0) hK Tryz.func27 ZnT fun a r hr => ?_
  obtain ⟨n, hn⟩ := h a r hr
  exact ⟨n, Zdc qg n, (Zbm (ids := [0]) (by kernel_rfl) (by decide) (fun i hi => by
    simp only [List.mem_cons, List.not_mem_nil, or_false] at hi
    rcases hi with rfl
    · exact Zbk (c2 := Zar (Zac Tryz.f27) 0) (by kernel_rfl) (by kernel_rfl) (ZjV qg h0 _ _ (Nat.le_refl _))
    )), (ZqP qg n a).trans hn⟩
def Zeq (qh : T1g) {R : Type} (n : Nat) (a0 : List Val) (a1 : List Val) (kx0 : Bool → Option R) (kr : Bool → Option R) (y4 : Bool) (y5 : Int) (k : Bool → Int → Option R) : Option R :=
  cond (decide (y5 < (a0.length : Int)))
  (Option.bind (ZeS a0 y5) fun x3 =>
  Option.bind (ZeS a1 y5) fun x4 =>
  Option.bind (cond (!(!(Tok.eqb x3.tok x4.tok))) (ZeS a0 y5) (some Ybu)) fun x5 =>
  Option.bind (cond (!(!(Tok.eqb x3.tok x4.tok))) (ZeS a1 y5) (some Ybu)) fun x6 =>
  Option.bind (cond (!(!(Tok.eqb x3.tok x4.tok))) (qh (x5.l, x6.l)) (some false)) fun r7 =>
  Option.bind (some (cond (!(Tok.eqb x3.tok x4.tok)) true (!r7))) fun m8 =>
  cond m8
  (kr false)
  (k y4 (IntKind.i64.wrap (y5 + (1 : Int)))))
  (kx0 y4)
def Zht (qh : T1g) (n : Nat) (p0 : List Val) (p1 : List Val) : Option Bool :=
  cond ((p0.length : Int) != (p1.length : Int))
  (some false)
  (Zgb (Zeq qh n p0 p1 (fun z1 =>
  some true) (fun z2 =>
  some z2)) n false (0 : Int))
abbrev ZpP (qh : T1g) : List (Nat × TCall X) := [(15, ⟨true, [.ty 22, .ty 22], [4], qh⟩)]
noncomputable abbrev Zcr (qh : T1g) : Cx := ⟨C, U, ZpP qh, [], fun _ => []⟩
theorem Zoz : okF (C.ann 15) Tryz.f15 2 = true := by kernel_rfl
abbrev ref04_Same_L0_D : LD := ⟨0, [.val 0 22, .val 1 22], [.val 4 4, .val 5 2], [(0, [.val 4 4])], [.val 4 4]⟩
abbrev Zdz (qh : T1g) (n : Nat) : LG U (PX X [4]) ref04_Same_L0_D := fun c kx kr y k => Zeq qh n c.1 c.2.1 (fun z0 => kx 0 (z0, ())) (fun z0 => kr (z0, ())) y.1 y.2.1 (fun z0 z1 => k (z0, z1, ()))
noncomputable abbrev Zde (qh : T1g) (n : Nat) : ZeT (Zcr qh) (PX X [4]) := [(0, Zfk U ref04_Same_L0_D (Zdz qh n) n)]
theorem Zlx (qh : T1g) (n : Nat) : ∀ c kx kr y k1, evL (Zcr qh) (ann 15) (Zde qh n) 0 (Zar (Zac Tryz.f15) 0) (ZeE U ref04_Same_L0_D kx kr k1) (encS U ref04_Same_L0_D.cap ref04_Same_L0_D.din c y) = Zdz qh n c (fun i z => kx i c z) kr y (fun y2 => k1 c y2) := by
  intro c kx kr y k1
  kernel_rfl
theorem Zqt (qh : T1g) (n : Nat) : ∀ a, fnL (Zcr qh) true 15 Tryz.f15 [.ty 22, .ty 22] [4] (Zde qh n) a = Zht qh n a.1 a.2 := by
  intro a
  kernel_rfl
theorem ZiS {K : Zaa} (qh : T1g) (h0 : P1h K qh) : CallsOk (Zcr qh) (Zab C K) :=
  ⟨(Zag h0 ZaA), Zaz⟩
theorem Zjd {K : Zaa} (qh : T1g) (h0 : P1h K qh) (n : Nat) (b0 : Base) (bn0 : b0.nr ≤ 0) : Law (Zcr qh) b0 (Zab C K) (ann 15) n (Zar (Zac Tryz.f15) 0) (Zfk U ref04_Same_L0_D (Zdz qh n) n) :=
  Zda (x := Zcr qh) (id := 0) ok (ZiS qh h0) (sums := Zde qh n) (Zau (show Zaq 0 (Zar (Zac Tryz.f15) 0) = [] by kernel_rfl)) ref04_Same_L0_D bn0 (Zdz qh n) (Zlx qh n)
theorem ZkD {K : Zaa} (hK : ∀ args h, K 15 args h = none) (qh : T1g) (h0 : P1h K qh) (t : PX X (AK.tys [.ty 22, .ty 22]) → Option (PX X [4])) (h : ∀ a r, t a = some r → ∃ n, Zht qh n a.1 a.2 = some r) : Zaj U (Zab C K) 15 ⟨true, [.ty 22, .ty 22], [4], t⟩ := by
  refine Zav (x := Zcr qh) (ak := [.ty 22, .ty 22]) (rts := [4]) (dir := true) ok (ZiS qh h0) hK Tryz.func15 Zoz fun a r hr => ?_
  obtain ⟨n, hn⟩ := h a r hr
  exact ⟨n, Zde qh n, (Zbm (ids := [0]) (by kernel_rfl) (by decide) (fun i hi => by
    simp only [List.mem_cons, List.not_mem_nil, or_false] at hi
    rcases hi with rfl
    · exact Zbk (c2 := Zar (Zac Tryz.f15) 0) (by kernel_rfl) (by kernel_rfl) (Zjd qh h0 _ _ (Nat.le_refl _))
    )), (Zqt qh n a).trans hn⟩
def Zfn (qi : T1h) (n : Nat) (p0 : List UInt8) (p1 : List UInt8) : Option Bool :=
  Option.bind (qi (p0, p1)) fun r1 =>
  some r1
abbrev ZhW (qi : T1h) : List (Nat × TCall X) := [(89, ⟨true, [.ty 9, .ty 9], [4], qi⟩)]
noncomputable abbrev Zb0 (qi : T1h) : Cx := ⟨C, U, ZhW qi, [], fun _ => []⟩
theorem Zhz : okF (C.ann 72) Tryz.f72 2 = true := by kernel_rfl
noncomputable abbrev ZdF (qi : T1h) (n : Nat) : ZeT (Zb0 qi) (PX X [4]) := []
theorem Zid (qi : T1h) (n : Nat) : ∀ a, fnL (Zb0 qi) true 72 Tryz.f72 [.ty 9, .ty 9] [4] (ZdF qi n) a = Zfn qi n a.1 a.2 := by
  intro a
  kernel_rfl
theorem Zhx {K : Zaa} (qi : T1h) (h0 : P1i K qi) : CallsOk (Zb0 qi) (Zab C K) :=
  ⟨(Zag h0 ZaA), Zaz⟩
theorem ZfN {K : Zaa} (hK : ∀ args h, K 72 args h = none) (qi : T1h) (h0 : P1i K qi) (t : PX X (AK.tys [.ty 9, .ty 9]) → Option (PX X [4])) (h : ∀ a r, t a = some r → ∃ n, Zfn qi n a.1 a.2 = some r) : Zaj U (Zab C K) 72 ⟨true, [.ty 9, .ty 9], [4], t⟩ := by
  refine Zav (x := Zb0 qi) (ak := [.ty 9, .ty 9]) (rts := [4]) (dir := true) ok (Zhx qi h0) hK Tryz.func72 Zhz fun a r hr => ?_
  obtain ⟨n, hn⟩ := h a r hr
  exact ⟨n, ZdF qi n, (Zau (show Zaq 0 (Zac Tryz.f72) = [] by kernel_rfl)), (Zid qi n a).trans hn⟩
def ZaP (n : Nat) (p0 : List UInt8) (p1 : List UInt8) : Option Bool :=
  Option.bind (cond (decide ((p0.length : Int) ≥ (p1.length : Int))) (Zui p0 (0 : Int) (p1.length : Int)) (some [])) fun s1 =>
  Option.bind (some (cond (decide ((p0.length : Int) ≥ (p1.length : Int))) (s1 == p1) false)) fun m2 =>
  some m2
abbrev ZdC : List (Nat × TCall X) := []
noncomputable abbrev ZaL : Cx := ⟨C, U, ZdC , [], fun _ => []⟩
theorem Zdn : okF (C.ann 89) Tryz.f89 2 = true := by kernel_rfl
noncomputable abbrev Zbu (n : Nat) : ZeT (ZaL ) (PX X [4]) := []
theorem ZdD (n : Nat) : ∀ a, fnL (ZaL ) true 89 Tryz.f89 [.ty 9, .ty 9] [4] (Zbu n) a = ZaP n a.1 a.2 := by
  intro a
  kernel_rfl
theorem ZdA {K : Zaa} : CallsOk (ZaL ) (Zab C K) :=
  ⟨ZaA, Zaz⟩
theorem ZcJ {K : Zaa} (hK : ∀ args h, K 89 args h = none) (t : PX X (AK.tys [.ty 9, .ty 9]) → Option (PX X [4])) (h : ∀ a r, t a = some r → ∃ n, ZaP n a.1 a.2 = some r) : Zaj U (Zab C K) 89 ⟨true, [.ty 9, .ty 9], [4], t⟩ := by
  refine Zav (x := ZaL ) (ak := [.ty 9, .ty 9]) (rts := [4]) (dir := true) ok (ZdA ) hK Tryz.func89 Zdn fun a r hr => ?_
  obtain ⟨n, hn⟩ := h a r hr
  exact ⟨n, Zbu n, (Zau (show Zaq 0 (Zac Tryz.f89) = [] by kernel_rfl)), (ZdD n a).trans hn⟩
def Ze0 (qj : T1h) (n : Nat) (p0 : List UInt8) : Option Bool :=
  Option.bind (qj (p0, [45, 45])) fun r1 =>
  Option.bind (some (cond r1 (decide ((p0.length : Int) > (2 : Int))) false)) fun m2 =>
  Option.bind (some (cond m2 (decide ((p0.length : Int) ≤ (64 : Int))) false)) fun m3 =>
  some m3
abbrev Zmy (qj : T1h) : List (Nat × TCall X) := [(72, ⟨true, [.ty 9, .ty 9], [4], qj⟩)]
noncomputable abbrev Zd2 (qj : T1h) : Cx := ⟨C, U, Zmy qj, [], fun _ => []⟩
theorem Zme : okF (C.ann 61) Tryz.f61 1 = true := by kernel_rfl
noncomputable abbrev Zfy (qj : T1h) (n : Nat) : ZeT (Zd2 qj) (PX X [4]) := []
theorem Zmt (qj : T1h) (n : Nat) : ∀ a, fnL (Zd2 qj) true 61 Tryz.f61 [.ty 9] [4] (Zfy qj n) a = Ze0 qj n a := by
  intro a
  kernel_rfl
theorem Zli {K : Zaa} (qj : T1h) (h0 : P1j K qj) : CallsOk (Zd2 qj) (Zab C K) :=
  ⟨(Zag h0 ZaA), Zaz⟩
theorem Zi0 {K : Zaa} (hK : ∀ args h, K 61 args h = none) (qj : T1h) (h0 : P1j K qj) (t : PX X (AK.tys [.ty 9]) → Option (PX X [4])) (h : ∀ a r, t a = some r → ∃ n, Ze0 qj n a = some r) : Zaj U (Zab C K) 61 ⟨true, [.ty 9], [4], t⟩ := by
  refine Zav (x := Zd2 qj) (ak := [.ty 9]) (rts := [4]) (dir := true) ok (Zli qj h0) hK Tryz.func61 Zme fun a r hr => ?_
  obtain ⟨n, hn⟩ := h a r hr
  exact ⟨n, Zfy qj n, (Zau (show Zaq 0 (Zac Tryz.f61) = [] by kernel_rfl)), (Zmt qj n a).trans hn⟩
def ZdX {R : Type} (n : Nat) (a2 : List UInt8) (a3 : Nat) (a8 : Nat) (a9 : Int) (kx0 : List Int → Option R) (y10 : Int) (h1 : List Int) (k : Int → List Int → Option R) : Option R :=
  cond (decide (y10 < a9))
  (Option.bind (if 0 ≤ y10 ∧ y10 < a8 ∧ y10 < h1.length then some y10.toNat else none) fun i3 =>
  Option.bind (h1[i3]?) fun e4 =>
  Option.bind (some (cond (decide (e4 ≥ (65 : Int))) (decide (e4 ≤ (90 : Int))) false)) fun m5 =>
  Option.bind (cond m5 (if 0 ≤ y10 ∧ y10 < a3 ∧ y10 < h1.length then some y10.toNat else none) (some 0)) fun i6 =>
  Option.bind (cond m5 (if i6 < h1.length then some (h1.set i6 (IntKind.u8.wrap ((IntKind.u8.wrap (e4 + (97 : Int))) - (65 : Int)))) else none) (some h1)) fun a7 =>
  Option.bind (some (cond m5 a7 h1)) fun m8 =>
  k (IntKind.i64.wrap (y10 + (1 : Int))) m8)
  (kx0 h1)
def Zga (n : Nat) (p0 : List UInt8) : Option (List UInt8) :=
  Zgb (ZdX n [] p0.length p0.length (p0.length : Int) (fun z1 =>
  Option.bind (if p0.length ≤ z1.length then some (Zn2 (z1.take p0.length)) else none) fun s2 =>
  some s2)) n (0 : Int) (ZfX p0)
abbrev Zo0 : List (Nat × TCall X) := []
noncomputable abbrev ZbU : Cx := ⟨C, U, Zo0 , [], fun _ => []⟩
theorem ZmE : okF (C.ann 41) Tryz.f41 1 = true := by kernel_rfl
abbrev short_small_L0_D : LD := ⟨0, [.val 2 9, .osl 3 0 5, .osl 8 0 5, .val 9 2], [.val 10 2, .harr false 5], [(0, [.harr false 5])], []⟩
abbrev ZcP (n : Nat) : LG U (PX X [9]) short_small_L0_D := fun c kx kr y k => ZdX n c.1 c.2.1 c.2.2.1 c.2.2.2.1 (fun z0 => kx 0 (z0, ())) y.1 y.2.1 (fun z0 z1 => k (z0, z1, ()))
noncomputable abbrev ZcV (n : Nat) : ZeT (ZbU ) (PX X [9]) := [(0, Zfk U short_small_L0_D (ZcP n) n)]
theorem ZkK (n : Nat) : ∀ c kx kr y k1, evL (ZbU ) (ann 41) (ZcV n) 0 (Zar (Zac Tryz.f41) 0) (ZeE U short_small_L0_D kx kr k1) (encS U short_small_L0_D.cap short_small_L0_D.din c y) = ZcP n c (fun i z => kx i c z) kr y (fun y2 => k1 c y2) := by
  intro c kx kr y k1
  kernel_rfl
theorem Zoj (n : Nat) : ∀ a, fnL (ZbU ) true 41 Tryz.f41 [.ty 9] [9] (ZcV n) a = Zga n a := by
  intro a
  kernel_rfl
theorem ZhH {K : Zaa} : CallsOk (ZbU ) (Zab C K) :=
  ⟨ZaA, Zaz⟩
theorem ZiA {K : Zaa} (n : Nat) (b0 : Base) (bn0 : b0.nr ≤ 0) : Law (ZbU ) b0 (Zab C K) (ann 41) n (Zar (Zac Tryz.f41) 0) (Zfk U short_small_L0_D (ZcP n) n) :=
  Zda (x := ZbU ) (id := 0) ok (ZhH ) (sums := ZcV n) (Zau (show Zaq 0 (Zar (Zac Tryz.f41) 0) = [] by kernel_rfl)) short_small_L0_D bn0 (ZcP n) (ZkK n)
theorem Zjp {K : Zaa} (hK : ∀ args h, K 41 args h = none) (t : PX X (AK.tys [.ty 9]) → Option (PX X [9])) (h : ∀ a r, t a = some r → ∃ n, Zga n a = some r) : Zaj U (Zab C K) 41 ⟨true, [.ty 9], [9], t⟩ := by
  refine Zav (x := ZbU ) (ak := [.ty 9]) (rts := [9]) (dir := true) ok (ZhH ) hK Tryz.func41 ZmE fun a r hr => ?_
  obtain ⟨n, hn⟩ := h a r hr
  exact ⟨n, ZcV n, (Zbm (ids := [0]) (by kernel_rfl) (by decide) (fun i hi => by
    simp only [List.mem_cons, List.not_mem_nil, or_false] at hi
    rcases hi with rfl
    · exact Zbk (c2 := Zar (Zac Tryz.f41) 0) (by kernel_rfl) (by kernel_rfl) (ZiA _ _ (Nat.le_refl _))
    )), (Zoj n a).trans hn⟩
end Go.Tev.S1
namespace Go.Tev.S1
open Go.Abs Go.Proofs
abbrev T2a : Type := (List UInt8) → Option (List UInt8)
abbrev T2b : Type := (List Val) → Option Bool
abbrev T2c : Type := (List Val) → Option Int
abbrev T2d : Type := Val → Option Bool
abbrev T2e : Type := (List Val) → Option (List Val)
abbrev T2f : Type := (List UInt8) → Option Bool
abbrev P2a (K : Zaa) (t : T2a) : Prop := Zaj U (Zab C K) 41 ⟨true, [.ty 9], [9], t⟩
abbrev P2b (K : Zaa) (t : T2b) : Prop := Zaj U (Zab C K) 14 ⟨true, [.ty 22], [4], t⟩
abbrev P2c (K : Zaa) (t : T2c) : Prop := Zaj U (Zab C K) 60 ⟨true, [.ty 22, .fn 40], [3], t⟩
abbrev P2d (K : Zaa) (t : T2d) : Prop := Zaj U (Zab C K) 40 ⟨true, [.ty 51], [4], t⟩
abbrev P2e (K : Zaa) (t : T2b) : Prop := Zaj U (Zab C K) 39 ⟨true, [.ty 22, .fn 40], [4], t⟩
abbrev P2h (K : Zaa) (t : T2c) : Prop := Zaj U (Zab C K) 44 ⟨true, [.ty 22], [3], t⟩
abbrev P2j (K : Zaa) (t : T2c) : Prop := Zaj U (Zab C K) 33 ⟨true, [.ty 22], [28], t⟩
abbrev P2k (K : Zaa) (t : T2e) : Prop := Zaj U (Zab C K) 67 ⟨true, [.ty 22], [22], t⟩
abbrev P2l (K : Zaa) (t : T2f) : Prop := Zaj U (Zab C K) 61 ⟨true, [.ty 9], [4], t⟩
abbrev P2m (K : Zaa) (t : T2e) : Prop := Zaj U (Zab C K) 68 ⟨true, [.ty 22], [22], t⟩
def Zf4 (qa : T2a) (qb : T2b) (n : Nat) (p0 : Val) : Option Bool :=
  Option.bind (cond (p0.tok.k == (2 : Int)) (qa p0.tok.t) (some [])) fun r1 =>
  Option.bind (some (cond (p0.tok.k == (2 : Int)) (r1 == [118, 97, 114]) false)) fun m2 =>
  Option.bind (cond (!m2) (qb p0.l) (some false)) fun r3 =>
  Option.bind (some (cond m2 true r3)) fun m4 =>
  some m4
abbrev Zo6 (qa : T2a) (qb : T2b) : List (Nat × TCall X) := [(41, ⟨true, [.ty 9], [9], qa⟩), (14, ⟨true, [.ty 22], [4], qb⟩)]
noncomputable abbrev Zep (qa : T2a) (qb : T2b) : Cx := ⟨C, U, Zo6 qa qb, [], fun _ => []⟩
theorem ZmD : okF (C.ann 40) Tryz.f40 1 = true := by kernel_rfl
noncomputable abbrev Zgl (qa : T2a) (qb : T2b) (n : Nat) : ZeT (Zep qa qb) (PX X [4]) := []
theorem Zom (qa : T2a) (qb : T2b) (n : Nat) : ∀ a, fnL (Zep qa qb) true 40 Tryz.f40 [.ty 51] [4] (Zgl qa qb n) a = Zf4 qa qb n a := by
  intro a
  kernel_rfl
theorem Zmw {K : Zaa} (qa : T2a) (qb : T2b) (h0 : P2a K qa) (h1 : P2b K qb) : CallsOk (Zep qa qb) (Zab C K) :=
  ⟨(Zag h0 (Zag h1 ZaA)), Zaz⟩
theorem ZjE {K : Zaa} (hK : ∀ args h, K 40 args h = none) (qa : T2a) (qb : T2b) (h0 : P2a K qa) (h1 : P2b K qb) (t : PX X (AK.tys [.ty 51]) → Option (PX X [4])) (h : ∀ a r, t a = some r → ∃ n, Zf4 qa qb n a = some r) : Zaj U (Zab C K) 40 ⟨true, [.ty 51], [4], t⟩ := by
  refine Zav (x := Zep qa qb) (ak := [.ty 51]) (rts := [4]) (dir := true) ok (Zmw qa qb h0 h1) hK Tryz.func40 ZmD fun a r hr => ?_
  obtain ⟨n, hn⟩ := h a r hr
  exact ⟨n, Zgl qa qb n, (Zau (show Zaq 0 (Zac Tryz.f40) = [] by kernel_rfl)), (Zom qa qb n a).trans hn⟩
def Zax (qc : T2c) (n : Nat) (p0 : List Val) : Option Bool :=
  Option.bind (qc p0) fun r1 =>
  some (decide (r1 ≥ (0 : Int)))
abbrev Zbq (qc : T2c) : List (Nat × TCall X) := [(60, ⟨true, [.ty 22, .fn 40], [3], qc⟩)]
noncomputable abbrev Zan (qc : T2c) : Cx := ⟨C, U, Zbq qc, [], fun _ => []⟩
theorem Zbf : okF (C.ann 39) Tryz.f39 2 = true := by kernel_rfl
noncomputable abbrev ZaD (qc : T2c) (n : Nat) : ZeT (Zan qc) (PX X [4]) := []
theorem Zbp (qc : T2c) (n : Nat) : ∀ a, fnL (Zan qc) true 39 Tryz.f39 [.ty 22, .fn 40] [4] (ZaD qc n) a = Zax qc n a := by
  intro a
  kernel_rfl
theorem Zbj {K : Zaa} (qc : T2c) (h0 : P2c K qc) : CallsOk (Zan qc) (Zab C K) :=
  ⟨(Zag h0 ZaA), Zaz⟩
theorem Zba {K : Zaa} (hK : ∀ args h, K 39 args h = none) (qc : T2c) (h0 : P2c K qc) (t : PX X (AK.tys [.ty 22, .fn 40]) → Option (PX X [4])) (h : ∀ a r, t a = some r → ∃ n, Zax qc n a = some r) : Zaj U (Zab C K) 39 ⟨true, [.ty 22, .fn 40], [4], t⟩ := by
  refine Zav (x := Zan qc) (ak := [.ty 22, .fn 40]) (rts := [4]) (dir := true) ok (Zbj qc h0) hK Tryz.func39 Zbf fun a r hr => ?_
  obtain ⟨n, hn⟩ := h a r hr
  exact ⟨n, ZaD qc n, (Zau (show Zaq 0 (Zac Tryz.f39) = [] by kernel_rfl)), (Zbp qc n a).trans hn⟩
def Zap (qd : T2d) {R : Type} (n : Nat) (a0 : List Val) (_ : Unit) (a7 : Int) (kx0 : Int → Option R) (kr : Int → Option R) (y4 : Int) (y8 : Int) (k : Int → Int → Option R) : Option R :=
  cond (decide (y8 < a7))
  (Option.bind (ZeS a0 y8) fun x3 =>
  Option.bind (qd (Val.mk x3.tok x3.l)) fun r4 =>
  cond r4
  (kr y8)
  (k y4 (IntKind.i64.wrap (y8 + (1 : Int)))))
  (kx0 y4)
def Zat (qd : T2d) (n : Nat) (p0 : List Val) : Option Int :=
  Zgb (Zap qd n p0 () (p0.length : Int) (fun z1 =>
  some (-1 : Int)) (fun z2 =>
  some z2)) n (0 : Int) (0 : Int)
abbrev ZbC (qd : T2d) : List (Nat × TCall X) := [(40, ⟨true, [.ty 51], [4], qd⟩)]
noncomputable abbrev Zaf (qd : T2d) : Cx := ⟨C, U, ZbC qd, [], fun _ => []⟩
theorem Zby : okF (C.ann 60) Tryz.f60 2 = true := by kernel_rfl
abbrev slices_IndexFuncapi_Value_api_Value_short_Var_1_L0_D : LD := ⟨0, [.val 0 22, .fn 1 40, .val 7 2], [.val 4 2, .val 8 2], [(0, [.val 4 2])], [.val 4 3]⟩
abbrev Zal (qd : T2d) (n : Nat) : LG U (PX X [3]) slices_IndexFuncapi_Value_api_Value_short_Var_1_L0_D := fun c kx kr y k => Zap qd n c.1 c.2.1 c.2.2.1 (fun z0 => kx 0 (z0, ())) (fun z0 => kr (z0, ())) y.1 y.2.1 (fun z0 z1 => k (z0, z1, ()))
noncomputable abbrev Zam (qd : T2d) (n : Nat) : ZeT (Zaf qd) (PX X [3]) := [(0, Zfk U slices_IndexFuncapi_Value_api_Value_short_Var_1_L0_D (Zal qd n) n)]
theorem Zbo (qd : T2d) (n : Nat) : ∀ c kx kr y k1, evL (Zaf qd) (ann 60) (Zam qd n) 0 (Zar (Zac Tryz.f60) 0) (ZeE U slices_IndexFuncapi_Value_api_Value_short_Var_1_L0_D kx kr k1) (encS U slices_IndexFuncapi_Value_api_Value_short_Var_1_L0_D.cap slices_IndexFuncapi_Value_api_Value_short_Var_1_L0_D.din c y) = Zal qd n c (fun i z => kx i c z) kr y (fun y2 => k1 c y2) := by
  intro c kx kr y k1
  kernel_rfl
theorem ZbB (qd : T2d) (n : Nat) : ∀ a, fnL (Zaf qd) true 60 Tryz.f60 [.ty 22, .fn 40] [3] (Zam qd n) a = Zat qd n a := by
  intro a
  kernel_rfl
theorem ZaM {K : Zaa} (qd : T2d) (h0 : P2d K qd) : CallsOk (Zaf qd) (Zab C K) :=
  ⟨(Zag h0 ZaA), Zaz⟩
theorem Zbe {K : Zaa} (qd : T2d) (h0 : P2d K qd) (n : Nat) (b0 : Base) (bn0 : b0.nr ≤ 0) : Law (Zaf qd) b0 (Zab C K) (ann 60) n (Zar (Zac Tryz.f60) 0) (Zfk U slices_IndexFuncapi_Value_api_Value_short_Var_1_L0_D (Zal qd n) n) :=
  Zda (x := Zaf qd) (id := 0) ok (ZaM qd h0) (sums := Zam qd n) (Zau (show Zaq 0 (Zar (Zac Tryz.f60) 0) = [] by kernel_rfl)) slices_IndexFuncapi_Value_api_Value_short_Var_1_L0_D bn0 (Zal qd n) (Zbo qd n)
theorem Zbl {K : Zaa} (hK : ∀ args h, K 60 args h = none) (qd : T2d) (h0 : P2d K qd) (t : PX X (AK.tys [.ty 22, .fn 40]) → Option (PX X [3])) (h : ∀ a r, t a = some r → ∃ n, Zat qd n a = some r) : Zaj U (Zab C K) 60 ⟨true, [.ty 22, .fn 40], [3], t⟩ := by
  refine Zav (x := Zaf qd) (ak := [.ty 22, .fn 40]) (rts := [3]) (dir := true) ok (ZaM qd h0) hK Tryz.func60 Zby fun a r hr => ?_
  obtain ⟨n, hn⟩ := h a r hr
  exact ⟨n, Zam qd n, (Zbm (ids := [0]) (by kernel_rfl) (by decide) (fun i hi => by
    simp only [List.mem_cons, List.not_mem_nil, or_false] at hi
    rcases hi with rfl
    · exact Zbk (c2 := Zar (Zac Tryz.f60) 0) (by kernel_rfl) (by kernel_rfl) (Zbe qd h0 _ _ (Nat.le_refl _))
    )), (ZbB qd n a).trans hn⟩
def Zl3 (qe : T2b) (n : Nat) (p0 : List Val) : Option Bool :=
  Option.bind (qe p0) fun r1 =>
  some r1
abbrev Zsg (qe : T2b) : List (Nat × TCall X) := [(39, ⟨true, [.ty 22, .fn 40], [4], qe⟩)]
noncomputable abbrev ZfZ (qe : T2b) : Cx := ⟨C, U, Zsg qe, [], fun _ => []⟩
theorem ZpC : okF (C.ann 14) Tryz.f14 1 = true := by kernel_rfl
noncomputable abbrev ZhF (qe : T2b) (n : Nat) : ZeT (ZfZ qe) (PX X [4]) := []
theorem Zsi (qe : T2b) (n : Nat) : ∀ a, fnL (ZfZ qe) true 14 Tryz.f14 [.ty 22] [4] (ZhF qe n) a = Zl3 qe n a := by
  intro a
  kernel_rfl
theorem Zre {K : Zaa} (qe : T2b) (h0 : P2e K qe) : CallsOk (ZfZ qe) (Zab C K) :=
  ⟨(Zag h0 ZaA), Zaz⟩
theorem Zlp {K : Zaa} (hK : ∀ args h, K 14 args h = none) (qe : T2b) (h0 : P2e K qe) (t : PX X (AK.tys [.ty 22]) → Option (PX X [4])) (h : ∀ a r, t a = some r → ∃ n, Zl3 qe n a = some r) : Zaj U (Zab C K) 14 ⟨true, [.ty 22], [4], t⟩ := by
  refine Zav (x := ZfZ qe) (ak := [.ty 22]) (rts := [4]) (dir := true) ok (Zre qe h0) hK Tryz.func14 ZpC fun a r hr => ?_
  obtain ⟨n, hn⟩ := h a r hr
  exact ⟨n, ZhF qe n, (Zau (show Zaq 0 (Zac Tryz.f14) = [] by kernel_rfl)), (Zsi qe n a).trans hn⟩
def Zd0 (qh : T2c) {R : Type} (n : Nat) (a2 : Int) (a6 : List Val) (a7 : Int) (kx0 : Int → Option R) (y3 : Int) (y8 : Int) (k : Int → Int → Option R) : Option R :=
  cond (decide (y8 < a7))
  (Option.bind (ZeS a6 y8) fun x2 =>
  Option.bind (qh x2.l) fun r3 =>
  k (IntKind.i64.wrap (y3 + (IntKind.i64.wrap ((IntKind.i64.wrap ((IntKind.i64.wrap ((1 : Int) + (x2.tok.t.length : Int))) + (x2.tok.u.length : Int))) + r3)))) (IntKind.i64.wrap (y8 + (1 : Int))))
  (kx0 y3)
def ZfK (qh : T2c) (n : Nat) (p0 : List Val) : Option Int :=
  Zgb (Zd0 qh n (0 : Int) p0 (p0.length : Int) (fun z1 =>
  some z1)) n (0 : Int) (0 : Int)
abbrev ZoO (qh : T2c) : List (Nat × TCall X) := [(44, ⟨true, [.ty 22], [3], qh⟩)]
noncomputable abbrev Zb1 (qh : T2c) : Cx := ⟨C, U, ZoO qh, [], fun _ => []⟩
theorem ZmV : okF (C.ann 44) Tryz.f44 1 = true := by kernel_rfl
abbrev vars_length_L0_D : LD := ⟨0, [.val 2 2, .val 6 22, .val 7 2], [.val 3 2, .val 8 2], [(0, [.val 3 2])], []⟩
abbrev ZcT (qh : T2c) (n : Nat) : LG U (PX X [3]) vars_length_L0_D := fun c kx kr y k => Zd0 qh n c.1 c.2.1 c.2.2.1 (fun z0 => kx 0 (z0, ())) y.1 y.2.1 (fun z0 z1 => k (z0, z1, ()))
noncomputable abbrev ZcW (qh : T2c) (n : Nat) : ZeT (Zb1 qh) (PX X [3]) := [(0, Zfk U vars_length_L0_D (ZcT qh n) n)]
theorem ZkH (qh : T2c) (n : Nat) : ∀ c kx kr y k1, evL (Zb1 qh) (ann 44) (ZcW qh n) 0 (Zar (Zac Tryz.f44) 0) (ZeE U vars_length_L0_D kx kr k1) (encS U vars_length_L0_D.cap vars_length_L0_D.din c y) = ZcT qh n c (fun i z => kx i c z) kr y (fun y2 => k1 c y2) := by
  intro c kx kr y k1
  kernel_rfl
theorem ZoA (qh : T2c) (n : Nat) : ∀ a, fnL (Zb1 qh) true 44 Tryz.f44 [.ty 22] [3] (ZcW qh n) a = ZfK qh n a := by
  intro a
  kernel_rfl
theorem ZhN {K : Zaa} (qh : T2c) (h0 : P2h K qh) : CallsOk (Zb1 qh) (Zab C K) :=
  ⟨(Zag h0 ZaA), Zaz⟩
theorem ZiU {K : Zaa} (qh : T2c) (h0 : P2h K qh) (n : Nat) (b0 : Base) (bn0 : b0.nr ≤ 0) : Law (Zb1 qh) b0 (Zab C K) (ann 44) n (Zar (Zac Tryz.f44) 0) (Zfk U vars_length_L0_D (ZcT qh n) n) :=
  Zda (x := Zb1 qh) (id := 0) ok (ZhN qh h0) (sums := ZcW qh n) (Zau (show Zaq 0 (Zar (Zac Tryz.f44) 0) = [] by kernel_rfl)) vars_length_L0_D bn0 (ZcT qh n) (ZkH qh n)
theorem Zj0 {K : Zaa} (hK : ∀ args h, K 44 args h = none) (qh : T2c) (h0 : P2h K qh) (t : PX X (AK.tys [.ty 22]) → Option (PX X [3])) (h : ∀ a r, t a = some r → ∃ n, ZfK qh n a = some r) : Zaj U (Zab C K) 44 ⟨true, [.ty 22], [3], t⟩ := by
  refine Zav (x := Zb1 qh) (ak := [.ty 22]) (rts := [3]) (dir := true) ok (ZhN qh h0) hK Tryz.func44 ZmV fun a r hr => ?_
  obtain ⟨n, hn⟩ := h a r hr
  exact ⟨n, ZcW qh n, (Zbm (ids := [0]) (by kernel_rfl) (by decide) (fun i hi => by
    simp only [List.mem_cons, List.not_mem_nil, or_false] at hi
    rcases hi with rfl
    · exact Zbk (c2 := Zar (Zac Tryz.f44) 0) (by kernel_rfl) (by kernel_rfl) (ZiU qh h0 _ _ (Nat.le_refl _))
    )), (ZoA qh n a).trans hn⟩
def ZfQ (qj : T2c) (qh : T2c) (n : Nat) (p0 : List Val) : Option (Int × Int) :=
  Option.bind (qj p0) fun r1 =>
  cond (r1 != (0 : Int))
  (some ((0 : Int), r1))
  (Option.bind (qh p0) fun r2 =>
  some (r2, (0 : Int)))
abbrev Zo4 (qj : T2c) (qh : T2c) : List (Nat × TCall X) := [(33, ⟨true, [.ty 22], [28], qj⟩), (44, ⟨true, [.ty 22], [3], qh⟩)]
noncomputable abbrev Zek (qj : T2c) (qh : T2c) : Cx := ⟨C, U, Zo4 qj qh, [], fun _ => []⟩
theorem ZmZ : okF (C.ann 24) Tryz.f24 1 = true := by kernel_rfl
noncomputable abbrev Zgm (qj : T2c) (qh : T2c) (n : Nat) : ZeT (Zek qj qh) (PX X [3, 28]) := []
theorem ZnX (qj : T2c) (qh : T2c) (n : Nat) : ∀ a, fnL (Zek qj qh) true 24 Tryz.f24 [.ty 22] [3, 28] (Zgm qj qh n) a = ZfQ qj qh n a := by
  intro a
  kernel_rfl
theorem Zmx {K : Zaa} (qj : T2c) (qh : T2c) (h0 : P2j K qj) (h1 : P2h K qh) : CallsOk (Zek qj qh) (Zab C K) :=
  ⟨(Zag h0 (Zag h1 ZaA)), Zaz⟩
theorem Zjm {K : Zaa} (hK : ∀ args h, K 24 args h = none) (qj : T2c) (qh : T2c) (h0 : P2j K qj) (h1 : P2h K qh) (t : PX X (AK.tys [.ty 22]) → Option (PX X [3, 28])) (h : ∀ a r, t a = some r → ∃ n, ZfQ qj qh n a = some r) : Zaj U (Zab C K) 24 ⟨true, [.ty 22], [3, 28], t⟩ := by
  refine Zav (x := Zek qj qh) (ak := [.ty 22]) (rts := [3, 28]) (dir := true) ok (Zmx qj qh h0 h1) hK Tryz.func24 ZmZ fun a r hr => ?_
  obtain ⟨n, hn⟩ := h a r hr
  exact ⟨n, Zgm qj qh n, (Zau (show Zaq 0 (Zac Tryz.f24) = [] by kernel_rfl)), (ZnX qj qh n a).trans hn⟩
def Zhh (n : Nat) (p0 : Val) : Option Bool :=
  Option.bind (some (cond (p0.tok.k == (2 : Int)) ((p0.tok.t.length : Int) == (3 : Int)) false)) fun m1 =>
  Option.bind (cond m1 (ZeS p0.tok.t (0 : Int)) (some 0)) fun b2 =>
  Option.bind (some (cond m1 ((IntKind.u8.wrap (BitVec.ofInt (IntKind.u8).bits (b2.toNat : Int) ||| BitVec.ofInt (IntKind.u8).bits (32 : Int)).toNat) == (118 : Int)) false)) fun m3 =>
  Option.bind (cond m3 (ZeS p0.tok.t (1 : Int)) (some 0)) fun b4 =>
  Option.bind (some (cond m3 ((IntKind.u8.wrap (BitVec.ofInt (IntKind.u8).bits (b4.toNat : Int) ||| BitVec.ofInt (IntKind.u8).bits (32 : Int)).toNat) == (97 : Int)) false)) fun m5 =>
  Option.bind (cond m5 (ZeS p0.tok.t (2 : Int)) (some 0)) fun b6 =>
  Option.bind (some (cond m5 ((IntKind.u8.wrap (BitVec.ofInt (IntKind.u8).bits (b6.toNat : Int) ||| BitVec.ofInt (IntKind.u8).bits (32 : Int)).toNat) == (114 : Int)) false)) fun m7 =>
  some m7
abbrev Zqx : List (Nat × TCall X) := []
noncomputable abbrev ZeX : Cx := ⟨C, U, Zqx , [], fun _ => []⟩
theorem Zov : okF (C.ann 55) Tryz.f55 1 = true := by kernel_rfl
noncomputable abbrev Zgy (n : Nat) : ZeT (ZeX ) (PX X [4]) := []
theorem Zps (n : Nat) : ∀ a, fnL (ZeX ) true 55 Tryz.f55 [.ty 51] [4] (Zgy n) a = Zhh n a := by
  intro a
  kernel_rfl
theorem ZnN {K : Zaa} : CallsOk (ZeX ) (Zab C K) :=
  ⟨ZaA, Zaz⟩
theorem ZkI {K : Zaa} (hK : ∀ args h, K 55 args h = none) (t : PX X (AK.tys [.ty 51]) → Option (PX X [4])) (h : ∀ a r, t a = some r → ∃ n, Zhh n a = some r) : Zaj U (Zab C K) 55 ⟨true, [.ty 51], [4], t⟩ := by
  refine Zav (x := ZeX ) (ak := [.ty 51]) (rts := [4]) (dir := true) ok (ZnN ) hK Tryz.func55 Zov fun a r hr => ?_
  obtain ⟨n, hn⟩ := h a r hr
  exact ⟨n, Zgy n, (Zau (show Zaq 0 (Zac Tryz.f55) = [] by kernel_rfl)), (Zps n a).trans hn⟩
def Zfg {R : Type} (n : Nat) (a2 : List Val) (kx0 : List Val → Option R) (y0 : List Val) (k : List Val → Option R) : Option R :=
  Option.bind (cond (decide ((y0.length : Int) > (0 : Int))) (ZeS y0 (0 : Int)) (some Ybu)) fun x2 =>
  Option.bind (some (cond (decide ((y0.length : Int) > (0 : Int))) (x2.tok.k == (13 : Int)) false)) fun m3 =>
  cond m3
  (Option.bind (Zui y0 (1 : Int) (y0.length : Int)) fun s4 =>
  k s4)
  (kx0 y0)
def Zf1 (n : Nat) (p0 : List Val) : Option (List Val) :=
  Zuk (Zfg n [] (fun z1 =>
  some z1)) n p0
abbrev ZoZ : List (Nat × TCall X) := []
noncomputable abbrev Zb5 : Cx := ⟨C, U, ZoZ , [], fun _ => []⟩
theorem ZmF : okF (C.ann 67) Tryz.f67 1 = true := by kernel_rfl
abbrev vars_spaces_L0_D : LD := ⟨0, [.val 2 22], [.val 0 22], [(0, [.val 0 22])], []⟩
abbrev ZcK (n : Nat) : LG U (PX X [22]) vars_spaces_L0_D := fun c kx kr y k => Zfg n c.1 (fun z0 => kx 0 (z0, ())) y.1 (fun z0 => k (z0, ()))
noncomputable abbrev ZcR (n : Nat) : ZeT (Zb5 ) (PX X [22]) := [(0, Zfk U vars_spaces_L0_D (ZcK n) n)]
theorem ZkF (n : Nat) : ∀ c kx kr y k1, evL (Zb5 ) (ann 67) (ZcR n) 0 (Zar (Zac Tryz.f67) 0) (ZeE U vars_spaces_L0_D kx kr k1) (encS U vars_spaces_L0_D.cap vars_spaces_L0_D.din c y) = ZcK n c (fun i z => kx i c z) kr y (fun y2 => k1 c y2) := by
  intro c kx kr y k1
  kernel_rfl
theorem ZnH (n : Nat) : ∀ a, fnL (Zb5 ) true 67 Tryz.f67 [.ty 22] [22] (ZcR n) a = Zf1 n a := by
  intro a
  kernel_rfl
theorem ZhG {K : Zaa} : CallsOk (Zb5 ) (Zab C K) :=
  ⟨ZaA, Zaz⟩
theorem Zi8 {K : Zaa} (n : Nat) (b0 : Base) (bn0 : b0.nr ≤ 0) : Law (Zb5 ) b0 (Zab C K) (ann 67) n (Zar (Zac Tryz.f67) 0) (Zfk U vars_spaces_L0_D (ZcK n) n) :=
  Zda (x := Zb5 ) (id := 0) ok (ZhG ) (sums := ZcR n) (Zau (show Zaq 0 (Zar (Zac Tryz.f67) 0) = [] by kernel_rfl)) vars_spaces_L0_D bn0 (ZcK n) (ZkF n)
theorem ZjF {K : Zaa} (hK : ∀ args h, K 67 args h = none) (t : PX X (AK.tys [.ty 22]) → Option (PX X [22])) (h : ∀ a r, t a = some r → ∃ n, Zf1 n a = some r) : Zaj U (Zab C K) 67 ⟨true, [.ty 22], [22], t⟩ := by
  refine Zav (x := Zb5 ) (ak := [.ty 22]) (rts := [22]) (dir := true) ok (ZhG ) hK Tryz.func67 ZmF fun a r hr => ?_
  obtain ⟨n, hn⟩ := h a r hr
  exact ⟨n, ZcR n, (Zbm (ids := [0]) (by kernel_rfl) (by decide) (fun i hi => by
    simp only [List.mem_cons, List.not_mem_nil, or_false] at hi
    rcases hi with rfl
    · exact Zbk (c2 := Zar (Zac Tryz.f67) 0) (by kernel_rfl) (by kernel_rfl) (Zi8 _ _ (Nat.le_refl _))
    )), (ZnH n a).trans hn⟩
def ZgC (qk : T2e) {R : Type} (n : Nat) (a2 : List Val) (kx0 : List Val → Option R) (y0 : List Val) (k : List Val → Option R) : Option R :=
  Option.bind (cond (decide ((y0.length : Int) > (0 : Int))) (ZeS y0 (IntKind.i64.wrap ((y0.length : Int) - (1 : Int)))) (some Ybu)) fun x3 =>
  Option.bind (some (cond (decide ((y0.length : Int) > (0 : Int))) (x3.tok.k == (13 : Int)) false)) fun m4 =>
  cond m4
  (Option.bind (Zui y0 (0 : Int) (IntKind.i64.wrap ((y0.length : Int) - (1 : Int)))) fun s5 =>
  k s5)
  (kx0 y0)
def Zja (qk : T2e) (n : Nat) (p0 : List Val) : Option (List Val) :=
  Option.bind (qk p0) fun r1 =>
  Zuk (ZgC qk n [] (fun z2 =>
  some z2)) n r1
abbrev Zr2 (qk : T2e) : List (Nat × TCall X) := [(67, ⟨true, [.ty 22], [22], qk⟩)]
noncomputable abbrev ZcY (qk : T2e) : Cx := ⟨C, U, Zr2 qk, [], fun _ => []⟩
theorem Zpz : okF (C.ann 68) Tryz.f68 1 = true := by kernel_rfl
abbrev vars_trim_L0_D : LD := ⟨0, [.val 2 22], [.val 0 22], [(0, [.val 0 22])], []⟩
abbrev ZdY (qk : T2e) (n : Nat) : LG U (PX X [22]) vars_trim_L0_D := fun c kx kr y k => ZgC qk n c.1 (fun z0 => kx 0 (z0, ())) y.1 (fun z0 => k (z0, ()))
noncomputable abbrev Zd1 (qk : T2e) (n : Nat) : ZeT (ZcY qk) (PX X [22]) := [(0, Zfk U vars_trim_L0_D (ZdY qk n) n)]
theorem ZmA (qk : T2e) (n : Nat) : ∀ c kx kr y k1, evL (ZcY qk) (ann 68) (Zd1 qk n) 0 (Zar (Zac Tryz.f68) 0) (ZeE U vars_trim_L0_D kx kr k1) (encS U vars_trim_L0_D.cap vars_trim_L0_D.din c y) = ZdY qk n c (fun i z => kx i c z) kr y (fun y2 => k1 c y2) := by
  intro c kx kr y k1
  kernel_rfl
theorem ZrT (qk : T2e) (n : Nat) : ∀ a, fnL (ZcY qk) true 68 Tryz.f68 [.ty 22] [22] (Zd1 qk n) a = Zja qk n a := by
  intro a
  kernel_rfl
theorem Zj3 {K : Zaa} (qk : T2e) (h0 : P2k K qk) : CallsOk (ZcY qk) (Zab C K) :=
  ⟨(Zag h0 ZaA), Zaz⟩
theorem Zkr {K : Zaa} (qk : T2e) (h0 : P2k K qk) (n : Nat) (b0 : Base) (bn0 : b0.nr ≤ 0) : Law (ZcY qk) b0 (Zab C K) (ann 68) n (Zar (Zac Tryz.f68) 0) (Zfk U vars_trim_L0_D (ZdY qk n) n) :=
  Zda (x := ZcY qk) (id := 0) ok (Zj3 qk h0) (sums := Zd1 qk n) (Zau (show Zaq 0 (Zar (Zac Tryz.f68) 0) = [] by kernel_rfl)) vars_trim_L0_D bn0 (ZdY qk n) (ZmA qk n)
theorem Zmk {K : Zaa} (hK : ∀ args h, K 68 args h = none) (qk : T2e) (h0 : P2k K qk) (t : PX X (AK.tys [.ty 22]) → Option (PX X [22])) (h : ∀ a r, t a = some r → ∃ n, Zja qk n a = some r) : Zaj U (Zab C K) 68 ⟨true, [.ty 22], [22], t⟩ := by
  refine Zav (x := ZcY qk) (ak := [.ty 22]) (rts := [22]) (dir := true) ok (Zj3 qk h0) hK Tryz.func68 Zpz fun a r hr => ?_
  obtain ⟨n, hn⟩ := h a r hr
  exact ⟨n, Zd1 qk n, (Zbm (ids := [0]) (by kernel_rfl) (by decide) (fun i hi => by
    simp only [List.mem_cons, List.not_mem_nil, or_false] at hi
    rcases hi with rfl
    · exact Zbk (c2 := Zar (Zac Tryz.f68) 0) (by kernel_rfl) (by kernel_rfl) (Zkr qk h0 _ _ (Nat.le_refl _))
    )), (ZrT qk n a).trans hn⟩
def Zhm (qk : T2e) (ql : T2f) (qm : T2e) (n : Nat) (p0 : Val) : Option ((List UInt8) × (List Val) × Bool) :=
  Option.bind (qk p0.l) fun r1 =>
  Option.bind (cond (!((r1.length : Int) == (0 : Int))) (ZeS r1 (0 : Int)) (some Ybu)) fun x2 =>
  Option.bind (some (cond ((r1.length : Int) == (0 : Int)) true (x2.tok.k != (1 : Int)))) fun m3 =>
  Option.bind (cond (!m3) (ZeS r1 (0 : Int)) (some Ybu)) fun x4 =>
  Option.bind (cond (!m3) (ql x4.tok.t) (some false)) fun r5 =>
  Option.bind (some (cond m3 true (!r5))) fun m6 =>
  cond m6
  (some ([], [], false))
  (Option.bind (ZeS r1 (0 : Int)) fun x7 =>
  Option.bind (Zui r1 (1 : Int) (r1.length : Int)) fun s8 =>
  Option.bind (qk s8) fun r9 =>
  cond ((r9.length : Int) == (0 : Int))
  (some (x7.tok.t, [], false))
  (Option.bind (ZeS r9 (0 : Int)) fun x10 =>
  cond (x10.tok.k == (18 : Int))
  (Option.bind (Zui r9 (1 : Int) (r9.length : Int)) fun s11 =>
  Option.bind (qm s11) fun r12 =>
  some (x7.tok.t, r12, true))
  (some ([], [], false))))
abbrev Zrc (qk : T2e) (ql : T2f) (qm : T2e) : List (Nat × TCall X) := [(67, ⟨true, [.ty 22], [22], qk⟩), (61, ⟨true, [.ty 9], [4], ql⟩), (68, ⟨true, [.ty 22], [22], qm⟩)]
noncomputable abbrev Zfd (qk : T2e) (ql : T2f) (qm : T2e) : Cx := ⟨C, U, Zrc qk ql qm, [], fun _ => []⟩
theorem Zos : okF (C.ann 56) Tryz.f56 1 = true := by kernel_rfl
noncomputable abbrev ZgI (qk : T2e) (ql : T2f) (qm : T2e) (n : Nat) : ZeT (Zfd qk ql qm) (PX X [9, 22, 4]) := []
theorem Zqb (qk : T2e) (ql : T2f) (qm : T2e) (n : Nat) : ∀ a, fnL (Zfd qk ql qm) true 56 Tryz.f56 [.ty 51] [9, 22, 4] (ZgI qk ql qm n) a = Zhm qk ql qm n a := by
  intro a
  kernel_rfl
theorem Zoo {K : Zaa} (qk : T2e) (ql : T2f) (qm : T2e) (h0 : P2k K qk) (h1 : P2l K ql) (h2 : P2m K qm) : CallsOk (Zfd qk ql qm) (Zab C K) :=
  ⟨(Zag h0 (Zag h1 (Zag h2 ZaA))), Zaz⟩
theorem ZkC {K : Zaa} (hK : ∀ args h, K 56 args h = none) (qk : T2e) (ql : T2f) (qm : T2e) (h0 : P2k K qk) (h1 : P2l K ql) (h2 : P2m K qm) (t : PX X (AK.tys [.ty 51]) → Option (PX X [9, 22, 4])) (h : ∀ a r, t a = some r → ∃ n, Zhm qk ql qm n a = some r) : Zaj U (Zab C K) 56 ⟨true, [.ty 51], [9, 22, 4], t⟩ := by
  refine Zav (x := Zfd qk ql qm) (ak := [.ty 51]) (rts := [9, 22, 4]) (dir := true) ok (Zoo qk ql qm h0 h1 h2) hK Tryz.func56 Zos fun a r hr => ?_
  obtain ⟨n, hn⟩ := h a r hr
  exact ⟨n, ZgI qk ql qm n, (Zau (show Zaq 0 (Zac Tryz.f56) = [] by kernel_rfl)), (Zqb qk ql qm n a).trans hn⟩
end Go.Tev.S1
namespace Go.Tev.S1
open Go.Abs Go.Proofs
def ZmY (l : List Val) : Option Int := if Zak l ≤ B then some (Zak l : Int) else none
theorem Zu4 {l : List Val} {r : Int} (h : ZmY l = some r) : Zak l ≤ B ∧ r = Zak l := by
  unfold ZmY at h
  split at h
  · rename_i h1; exact ⟨h1, (Option.some.inj h).symm⟩
  · cases h
theorem ZiG {l : List Val} (h : Zak l ≤ B) : ZmY l = some (Zak l : Int) := if_pos h
end Go.Tev.S1
namespace Go.Tev.S1
open Go.Abs Go.Proofs
theorem Zsj (k : Int) : Zf3 0 k = some (Za4 k) := by
  unfold Zf3 Za4
  by_cases h1 : k = 2
  · simp [h1]
  · by_cases h2 : k = 21
    · rw [h2]; rfl
    · by_cases h3 : k = 19
      · rw [h3]; rfl
      · by_cases h4 : k = 23
        · rw [h4]; rfl
        · have e1 : (k == 2) = false := by simpa using h1
          have e2 : (k == 21) = false := by simpa using h2
          have e3 : (k == 19) = false := by simpa using h3
          have e4 : (k == 23) = false := by simpa using h4
          simp [h1, h2, h3, h4, e1, e2, e3, e4]
theorem Zr0 (k : Int) : Ze1 0 k = some (Za4 k) := by
  unfold Ze1 Za4
  by_cases h1 : k = 2
  · rw [h1]; rfl
  · by_cases h2 : k = 21
    · rw [h2]; rfl
    · by_cases h3 : k = 19
      · rw [h3]; rfl
      · by_cases h4 : k = 23
        · rw [h4]; rfl
        · have e1 : (k == 2) = false := by simpa using h1
          have e2 : (k == 21) = false := by simpa using h2
          have e3 : (k == 19) = false := by simpa using h3
          have e4 : (k == 23) = false := by simpa using h4
          simp [h1, h2, h3, h4, e1, e2, e3, e4]
theorem Yan {K : Zaa} (hK : ∀ args h, K 66 args h = none) : Zaj U (Zab C K) 66 ⟨true, [.ty 5], [5], fun k => some (Za4 k)⟩ :=
  Zjl hK _ fun a r h => by cases h; exact ⟨0, Zsj a⟩
theorem Zz0 {K : Zaa} (hK : ∀ args h, K 47 args h = none) : Zaj U (Zab C K) 47 ⟨true, [.ty 5], [5], fun k => some (Za4 k)⟩ :=
  Zik hK _ fun a r h => by cases h; exact ⟨0, Zr0 a⟩
def ZrW (a : List Val × Int) : Option Fnd := if Zak a.1 ≤ B then some (ZqL a.2 a.1) else none
theorem Zpb {l : List Val} {cl : Int} (h : Zak l ≤ B) : ZrW (l, cl) = some (ZqL cl l) := if_pos h
theorem ZvU (cl : Int) (l : List Val) (k : Nat) (h1 : Zak l < k + 1) (h2 : Zak l ≤ B) : Zi4 (fun k => some (Za4 k)) (below (fun a : List Val × Int => Zak a.1) k ZrW) (l.length + 1) l cl = some (ZqL cl l) := by
  have hB : B = 2 ^ 36 := rfl
  unfold Zi4
  refine (Zhv l (fun (b : List Val) => ((0 : Int), (0 : Int), false)) (fun b => ((Zfp b : Int), (Zla b : Int), Zry cl b)) (fun b v => .inl (b ++ [v])) (fun b => some (ZqL cl b)) (fun i b => b = l.take i) ?_ ?_ ?_ [] rfl _ (Nat.lt_succ_self _)).trans ?_
  · intro i b v k' hv hlt hb
    subst hb
    have hmem := List.mem_of_getElem? hv
    have hs := ZeR hmem
    have hle := ZeL l i
    have ht := Zub hv
    have hle2 := ZeL l (i + 1)
    have hl := ZeH l
    have hd := Zg6 (l.take i)
    have hn := ZkM (l.take i)
    have hd' := Zg6 v.l
    have hn' := ZkM v.l
    simp (disch := omega) only [Ze9, Zbg hv, Option.bind_some, dlt hlt, cond_true, Bool.cond_self, ZdU, Zpb, Zdw]
    have hi : (i : Int) + 1 = ((i + 1 : Nat) : Int) := rfl
    rw [hi]
    simp only [Zlw, Zr6, Zr3, Zfp, Zla, Zry, Val.dep_eq v, Val.ntk_eq v, Val.bad_eq cl v, ZqL]
    have hp : decide ((v.l.length : Int) > 0) = decide (0 < v.l.length) := by simp
    rw [hp]
    by_cases hc : Za4 v.tok.k = 0
    · simp only [hc, beq_self_eq_true, cond_true, if_true]
      have hx : (((max (Zfp (l.take i)) (max 0 0) : Nat)) : Int) = (Zfp (l.take i) : Int) := by omega
      have hy : (((Zla (l.take i) + (1 + 0) : Nat)) : Int) = (Zla (l.take i) : Int) + 1 := by omega
      rw [hx, hy]
      cases e1 : (cl != 0) <;> cases e2 : (v.tok.k == cl) <;> cases e3 : decide (0 < v.l.length) <;> cases e4 : Zry cl (l.take i) <;> rfl
    · have hc' : (Za4 v.tok.k == 0) = false := by simpa using hc
      have hc2 : (Za4 v.tok.k != 0) = true := by simpa using hc
      have hbel : below (fun a : List Val × Int => Zak a.1) k ZrW (v.l, Za4 v.tok.k) = some (ZqL (Za4 v.tok.k) v.l) := (ZdU (sz := fun a : List Val × Int => Zak a.1) (show Zak v.l < k by omega)).trans (Zpb (by omega))
      simp (disch := omega) only [hc', hc2, cond_false, if_neg hc, hbel, Option.bind_some, ZqL, Zdw]
      have hx : (if (Zfp v.l : Int) + 1 > (Zfp (l.take i) : Int) then (Zfp v.l : Int) + 1 else (Zfp (l.take i) : Int)) = (((max (Zfp (l.take i)) (max (1 + Zfp v.l) 0) : Nat)) : Int) := by split <;> omega
      have hy : (Zla (l.take i) : Int) + 1 + (Zla v.l : Int) + 1 = (((Zla (l.take i) + (2 + Zla v.l + 0) : Nat)) : Int) := by omega
      rw [hx, hy]
      cases e1 : (cl != 0) <;> cases e2 : (v.tok.k == cl) <;> cases e3 : decide (0 < v.l.length) <;> cases e4 : Zry cl (l.take i) <;> cases e5 : Zry (Za4 v.tok.k) v.l <;> rfl
  · intro i b v b' hv hb hs
    cases hs
    rw [ZbG hv, hb]
  · intro b k' hb
    simp only [Ze9, Zpk, cond_false]; rfl
  · rw [Zdl (fun (b : List Val) (v : Val) => b ++ [v]), Zfz]
theorem YdV {K : Zaa} (hK : ∀ args h, K 52 args h = none) (h67 : ∀ args h, K 66 args h = none) : Zaj U (Zab C K) 52 ⟨true, [.ty 22, .ty 5], [84], ZrW⟩ :=
  Zd8 (U := U) (ak := [.ty 22, .ty 5]) (rts := [84]) (fun a : List Val × Int => Zak a.1) ZrW fun k ih => Zlz hK _ _ (Yan h67) ih _ fun a r h => by
    obtain ⟨h1, h2⟩ := Zc6 h
    unfold ZrW at h2
    split at h2
    · rename_i h3
      cases h2
      exact ⟨_, ZvU a.2 a.1 k h1 h3⟩
    · cases h2
def ZaE (l : List Val) : Int := if Zfp l > 16 then 20 else if Zla l > 1500 then 4 else if Zry 0 l then 8 else 0
def ZiV (l : List Val) : Option Int := if Zak l ≤ B then some (ZaE l) else none
theorem ZeD {l : List Val} (h : Zak l ≤ B) : ZiV l = some (ZaE l) := if_pos h
theorem Zuo (l : List Val) (h : Zak l ≤ B) : Zhl ZrW 0 l = some (ZaE l) := by
  unfold Zhl ZaE
  rw [Zpb h]
  simp only [Option.bind_some, ZqL]
  by_cases h1 : Zfp l > 16
  · have : decide ((Zfp l : Int) > 16) = true := by simp; omega
    rw [this, if_pos h1]; rfl
  · have : decide ((Zfp l : Int) > 16) = false := by simp; omega
    rw [this, if_neg h1]
    by_cases h2 : Zla l > 1500
    · have : decide ((Zla l : Int) > 1500) = true := by simp; omega
      rw [this, if_pos h2]; rfl
    · have : decide ((Zla l : Int) > 1500) = false := by simp; omega
      rw [this, if_neg h2]
      cases Zry 0 l <;> rfl
theorem ZdO {K : Zaa} (hK : ∀ args h, K 33 args h = none) (h43 : ∀ args h, K 52 args h = none) (h67 : ∀ args h, K 66 args h = none) : Zaj U (Zab C K) 33 ⟨true, [.ty 22], [28], ZiV⟩ :=
  Zko hK _ (YdV h43 h67) _ fun a r h => by
    unfold ZiV at h
    split at h
    · rename_i h3
      cases h
      exact ⟨0, Zuo a h3⟩
    · cases h
end Go.Tev.S1
namespace Go.Tev.S1
open Go.Abs Go.Proofs
def ZrU (l : List Val) : Option Int := if Zak l ≤ B then some (Zfp l : Int) else none
theorem Zt0 {l : List Val} (h : Zak l ≤ B) : ZrU l = some (Zfp l : Int) := if_pos h
theorem ZwP (l : List Val) (k : Nat) (h1 : Zak l < k + 1) (h2 : Zak l ≤ B) : Zg1 (fun k => some (Za4 k)) (below Zak k ZrU) (l.length + 1) l = some (Zfp l : Int) := by
  have hB : B = 2 ^ 36 := rfl
  unfold Zg1
  refine (Zc5 l (fun (b : List Val) => (Zfp b : Int)) (fun b v => .inl (b ++ [v])) (fun b => some (Zfp b : Int)) (fun i b => b = l.take i) ?_ ?_ ?_ [] rfl _ (Nat.lt_succ_self _)).trans ?_
  · intro i b v k' hv hlt hb
    subst hb
    have hmem := List.mem_of_getElem? hv
    have hs := ZeR hmem
    have hle := ZeL l i
    have hl := ZeH l
    have hd := Zg6 (l.take i)
    have hd' := Zg6 v.l
    have hbel : below Zak k ZrU v.l = some (Zfp v.l : Int) := (ZdU (by omega)).trans (Zt0 (by omega))
    simp (disch := omega) only [Zeh, Zbg hv, Option.bind_some, dlt hlt, cond_true, hbel, Zdw]
    have hi : (i : Int) + 1 = ((i + 1 : Nat) : Int) := rfl
    rw [hi]
    simp only [Zlw, Zfp, Val.dep_eq v]
    by_cases hc : Za4 v.tok.k = 0
    · have hc2 : (Za4 v.tok.k != 0) = false := by simpa using hc
      simp only [hc2, cond_false, if_pos hc, Option.bind_some]
      congr 1; omega
    · have hc2 : (Za4 v.tok.k != 0) = true := by simpa using hc
      simp (disch := omega) only [hc2, cond_true, if_neg hc, hbel, Option.bind_some, Zdw]
      have hx : (if (1 : Int) + (Zfp v.l : Int) > (Zfp (l.take i) : Int) then (1 : Int) + (Zfp v.l : Int) else (Zfp (l.take i) : Int)) = (((max (Zfp (l.take i)) (max (1 + Zfp v.l) 0) : Nat)) : Int) := by split <;> omega
      rw [hx]
  · intro i b v b' hv hb hs
    cases hs
    rw [ZbG hv, hb]
  · intro b k' hb
    simp only [Zeh, Zpk, cond_false]
  · rw [Zdl (fun (b : List Val) (v : Val) => b ++ [v]), Zfz]
theorem Yed {K : Zaa} (hK : ∀ args h, K 28 args h = none) (h54 : ∀ args h, K 47 args h = none) : Zaj U (Zab C K) 28 ⟨true, [.ty 22], [3], ZrU⟩ :=
  Zd8 (U := U) (ak := [.ty 22]) (rts := [3]) Zak ZrU fun k ih => Zkw hK _ _ (Zz0 h54) ih _ fun a r h => by
    obtain ⟨h1, h2⟩ := Zc6 h
    unfold ZrU at h2
    split at h2
    · rename_i h3; cases h2; exact ⟨_, ZwP a k h1 h3⟩
    · cases h2
theorem Ybn {b n : Nat} (h1 : n ≤ 2 ^ 40) (h2 : b ≤ 96) : room b n = some () := by
  unfold room
  have h3 : n * b ≤ 2 ^ 40 * 96 := Nat.mul_le_mul h1 h2
  rw [if_pos ⟨by omega, by omega⟩]
end Go.Tev.S1
namespace Go.Tev
open Go.Abs
def Zpj (b : UInt8) : UInt8 := if 65 ≤ b.toNat ∧ b.toNat ≤ 90 then b + 32 else b
def Ze2 (l : List UInt8) : List UInt8 := l.map Zpj
def ZbT (l : List UInt8) : Bool := (decide ((l.length : Int) > 2) && decide ((l.length : Int) ≤ 64)) && (l.take 2 == [45, 45])
def Val.ref (v : Val) : Bool := v.tok.k == 2 && (Ze2 v.tok.t == [118, 97, 114])
mutual
def Val.hasv : Val → Bool
  | .mk t l => (t.k == 2 && (Ze2 t.t == [118, 97, 114])) || Zbx l
def Zbx : List Val → Bool
  | [] => false
  | v :: r => v.hasv || Zbx r
end
theorem Val.hasv_eq (v : Val) : v.hasv = (v.ref || Zbx v.l) := by cases v; rfl
theorem ZpX (a b : List Val) : Zbx (a ++ b) = (Zbx a || Zbx b) := by
  induction a with
  | nil => simp [Zbx]
  | cons v a ih => simp [Zbx, ih, Bool.or_assoc]
def sp (v : Val) : Bool := v.tok.k == 13
def spL : List Val → List Val
  | [] => []
  | v :: r => if sp v then spL r else v :: r
def trR (l : List Val) : List Val := (spL l.reverse).reverse
def trL (l : List Val) : List Val := trR (spL l)
theorem ZsP (l : List Val) : Zak l.reverse = Zak l := by
  induction l with
  | nil => rfl
  | cons v l ih => simp [Zez, Zak, ih]; omega
theorem ZkY (l : List Val) : Zak (spL l) ≤ Zak l := by
  induction l with
  | nil => exact Nat.le_refl _
  | cons v r ih => unfold spL; split <;> simp only [Zak] <;> omega
theorem Ybi (l : List Val) : Zak (trL l) ≤ Zak l := by
  unfold trL trR
  rw [ZsP]
  have h1 := ZkY (spL l).reverse
  rw [ZsP] at h1
  have h2 := ZkY l
  omega
def Zaw (l : List Val) : List UInt8 × List Val × Bool :=
  match spL l with
  | [] => ([], [], false)
  | x :: r => if x.tok.k = 1 ∧ ZbT x.tok.t = true then
      (match spL r with
      | [] => (x.tok.t, [], false)
      | y :: s => if y.tok.k = 18 then (x.tok.t, trL s, true) else ([], [], false))
    else ([], [], false)
theorem Ziy (l : List Val) : Zak (Zaw l).2.1 ≤ Zak l := by
  unfold Zaw
  have h1 := ZkY l
  cases e : spL l with
  | nil => simp [Zak]
  | cons x r =>
    rw [e] at h1
    simp only [Zak] at h1
    have h2 := ZkY r
    simp only
    split
    · cases e2 : spL r with
      | nil => simp [Zak]
      | cons y s =>
        rw [e2] at h2
        simp only [Zak] at h2
        simp only
        split
        · have := Ybi s
          simp only; omega
        · simp [Zak]
    · simp [Zak]
end Go.Tev
namespace Go.Tev.S1
open Go.Abs Go.Proofs
theorem kf {K : Zaa} (hK : Zcu K) (f : Nat) (h : f ∉ [8, 26, 37, 43, 62, 73]) : ∀ args g, K f args g = none := fun args g => hK f args g h
theorem ZmH (p q : List UInt8) : ZaP 0 p q = some (p.take q.length == q) := by
  unfold ZaP
  by_cases h : q.length ≤ p.length
  · have : decide ((p.length : Int) ≥ (q.length : Int)) = true := by simp; omega
    simp only [this, cond_true, Zui]
    rw [if_pos (by omega)]
    simp
  · have : decide ((p.length : Int) ≥ (q.length : Int)) = false := by simp; omega
    simp only [this, cond_false, Option.bind_some]
    congr 1
    symm
    rw [beq_eq_false_iff_ne]
    intro he
    have := congrArg List.length he
    simp at this
    omega
theorem ZrG (p : List UInt8) : Ze0 (fun a => some (a.1.take a.2.length == a.2)) 0 p = some (ZbT p) := by
  unfold Ze0 ZbT
  simp only [Option.bind_some, List.length_cons, List.length_nil]
  cases e1 : (p.take 2 == [45, 45]) <;> cases e2 : decide ((p.length : Int) > 2) <;> cases e3 : decide ((p.length : Int) ≤ 64) <;> rfl
theorem Zpm {K : Zaa} (hK : Zcu K) : Zaj U (Zab C K) 89 ⟨true, [.ty 9, .ty 9], [4], fun a => some (a.1.take a.2.length == a.2)⟩ :=
  ZcJ (kf hK 89 (by decide)) _ fun a r h => by cases h; exact ⟨0, ZmH a.1 a.2⟩
theorem Zsq {K : Zaa} (hK : Zcu K) : Zaj U (Zab C K) 72 ⟨true, [.ty 9, .ty 9], [4], fun a => some (a.1.take a.2.length == a.2)⟩ :=
  ZfN (kf hK 72 (by decide)) _ (Zpm hK) _ fun a r h => by cases h; exact ⟨0, rfl⟩
theorem Ztx {K : Zaa} (hK : Zcu K) : Zaj U (Zab C K) 61 ⟨true, [.ty 9], [4], fun a => some (ZbT a)⟩ :=
  Zi0 (kf hK 61 (by decide)) _ (Zsq hK) _ fun a r h => by cases h; exact ⟨0, ZrG a⟩
def Yev (l : List UInt8) : Option (List UInt8) := if l.length ≤ B then some (Ze2 l) else none
theorem YbP {l : List UInt8} (h : l.length ≤ B) : Yev l = some (Ze2 l) := if_pos h
def half (l b : List UInt8) : List Int := ZfX (b ++ l.drop b.length)
theorem ZtR {l : List UInt8} {i : Nat} {v : UInt8} (hv : l[i]? = some v) : (half l (Ze2 (l.take i)))[i]? = some (v.toNat : Int) := by
  have hlt : i < l.length := (List.getElem?_eq_some_iff.1 hv).1
  simp only [half, ZfX, Ze2, List.length_map, List.length_take, List.getElem?_map]
  rw [List.getElem?_append_right (by simp; omega)]
  simp only [List.length_map, List.length_take, List.getElem?_drop, Nat.min_eq_left (Nat.le_of_lt hlt)]
  rw [Nat.sub_self, Nat.add_zero, hv]; rfl
theorem ZnP {l : List UInt8} {i : Nat} (h : i ≤ l.length) : (half l (Ze2 (l.take i))).length = l.length := by
  simp [half, ZfX, Ze2]; omega
theorem Zrf {l : List UInt8} {i : Nat} {v : UInt8} (hv : l[i]? = some v) : half l (Ze2 (l.take (i + 1))) = (half l (Ze2 (l.take i))).set i ((Zpj v).toNat : Int) := by
  have hlt : i < l.length := (List.getElem?_eq_some_iff.1 hv).1
  apply List.ext_getElem?
  intro j
  rw [ZbG hv]
  simp only [half, ZfX, Ze2, List.map_append, List.map_cons, List.map_nil, List.length_append, List.length_map, List.length_take, Nat.min_eq_left (Nat.le_of_lt hlt), List.length_cons, List.length_nil]
  have hd : l.drop i = v :: l.drop (i + 1) := by
    rw [List.drop_eq_getElem_cons hlt]
    have := List.getElem?_eq_getElem hlt
    rw [hv] at this
    cases this; rfl
  rw [hd]
  simp only [List.append_assoc, List.cons_append, List.nil_append, List.map_append, List.map_cons, List.map_map]
  have hl : (List.map ((fun c => ((UInt8.toNat c : Nat) : Int)) ∘ Zpj) (List.take i l)).length = i := by simp; omega
  rw [List.set_append_right _ _ (by rw [hl]; exact Nat.le_refl _), hl, Nat.sub_self]
  rfl
theorem ZoV {l : List UInt8} {i : Nat} {v : UInt8} (hv : l[i]? = some v) (h : Zpj v = v) : half l (Ze2 (l.take (i + 1))) = half l (Ze2 (l.take i)) := by
  rw [Zrf hv, h]
  have h2 := ZtR hv
  apply List.ext_getElem?
  intro j
  by_cases hj : i = j
  · subst hj
    rw [List.getElem?_set_self (by rw [ZnP]; exact (List.getElem?_eq_some_iff.1 hv).1; exact Nat.le_of_lt (List.getElem?_eq_some_iff.1 hv).1), h2]
  · rw [List.getElem?_set_ne hj]
theorem Zqe (l : List UInt8) : Zn2 ((half l (Ze2 l)).take l.length) = Ze2 l := by
  have : half l (Ze2 l) = ZfX (Ze2 l) := by
    unfold half
    rw [List.drop_eq_nil_of_le (by simp [Ze2]), List.append_nil]
  rw [this, List.take_of_length_le (by simp [ZfX, Ze2])]
  unfold Zn2 ZfX
  rw [List.map_map]
  conv => rhs; rw [← List.map_id (Ze2 l)]
  apply List.map_congr_left
  intro c _
  simp
theorem Yb5 {v : UInt8} (h : 65 ≤ v.toNat ∧ v.toNat ≤ 90) : ((Zpj v).toNat : Int) = (v.toNat : Int) + 32 := by
  unfold Zpj
  rw [if_pos h, UInt8.toNat_add]
  have : (32 : UInt8).toNat = 32 := rfl
  rw [this]; omega
theorem Yck {v : UInt8} (h : ¬ (65 ≤ v.toNat ∧ v.toNat ≤ 90)) : Zpj v = v := if_neg h
theorem YdO {n : Int} (h1 : 0 ≤ n) (h2 : n < 256) : IntKind.u8.wrap n = n := by
  simp [IntKind.wrap, IntKind.signed, IntKind.bits]
  omega
theorem ZuM (l : List UInt8) (h2 : l.length ≤ B) : Zga (l.length + 1) l = some (Ze2 l) := by
  have hB : B = 2 ^ 36 := rfl
  unfold Zga
  refine ((congrArg (fun z => Zgb _ _ _ z) (show ZfX l = half l (Ze2 (l.take 0)) by simp [half, Ze2])).trans (ZhT l (half l) (fun b v => .inl (b ++ [Zpj v])) (fun b => some (Zn2 ((half l b).take l.length))) (fun i b => b = Ze2 (l.take i)) ?_ ?_ ?_ [] rfl _ (Nat.lt_succ_self _))).trans ?_
  · intro i b v k' hv hlt hb
    subst hb
    have hlen := ZnP (l := l) (i := i) (by omega)
    have hn := v.toNat_lt
    have hg : (if 0 ≤ (i : Int) ∧ (i : Int) < l.length ∧ (i : Int) < (half l (Ze2 (l.take i))).length then some (i : Int).toNat else none) = some i := by
      rw [if_pos (by omega)]; rfl
    simp (disch := omega) only [ZdX, dlt hlt, cond_true, hg, Option.bind_some, ZtR hv, Zdw]
    have hi : (i : Int) + 1 = ((i + 1 : Nat) : Int) := rfl
    rw [hi]
    have hsn : half l (Ze2 (l.take i) ++ [Zpj v]) = half l (Ze2 (l.take (i + 1))) := by rw [ZbG hv]; simp [Ze2]
    rw [hsn]
    by_cases hc : 65 ≤ v.toNat ∧ v.toNat ≤ 90
    · have e1 : decide ((v.toNat : Int) ≥ 65) = true := by simp; omega
      have e2 : decide ((v.toNat : Int) ≤ 90) = true := by simp; omega
      have e3 : i < (half l (Ze2 (l.take i))).length := by omega
      simp only [e1, e2, cond_true, hg, Option.bind_some, if_pos e3]
      rw [Zrf hv, Yb5 hc]
      congr 3
      rw [YdO (n := (v.toNat : Int) + 97) (by omega) (by omega)]
      rw [YdO (by omega) (by omega)]
      omega
    · have e1 : (bif decide ((v.toNat : Int) ≥ 65) then decide ((v.toNat : Int) ≤ 90) else false) = false := by
        cases a : decide ((v.toNat : Int) ≥ 65)
        · rfl
        · simp at a ⊢; omega
      simp only [e1, cond_false, Option.bind_some]
      rw [ZoV hv (Yck hc)]
  · intro i b v b' hv hb hs
    cases hs
    rw [ZbG hv, hb]; simp [Ze2]
  · intro b k' hb
    rw [List.take_length] at hb
    subst hb
    have := ZnP (l := l) (i := l.length) (Nat.le_refl _)
    rw [List.take_length] at this
    simp only [ZdX, Zpk, cond_false, this, Nat.le_refl, if_true, Option.bind_some]
  · rw [Zdl (fun (b : List UInt8) (v : UInt8) => b ++ [Zpj v])]
    have : ∀ (l b : List UInt8), l.foldl (fun (b : List UInt8) (v : UInt8) => b ++ [Zpj v]) b = b ++ Ze2 l := by
      intro l
      induction l with
      | nil => intro b; simp [Ze2]
      | cons v l ih => intro b; simp only [List.foldl_cons, ih]; simp [Ze2]
    rw [this, List.nil_append, Zqe]
theorem Ycs {K : Zaa} (hK : Zcu K) : Zaj U (Zab C K) 41 ⟨true, [.ty 9], [9], Yev⟩ :=
  Zjp (kf hK 41 (by decide)) _ fun a r h => by
    unfold Yev at h
    split at h
    · rename_i h3; cases h; exact ⟨_, ZuM a h3⟩
    · cases h
end Go.Tev.S1
namespace Go.Tev.S1
open Go.Abs Go.Proofs
theorem Ydy : ∀ (c : Nat), c = 118 ∨ c = 97 ∨ c = 114 → ∀ (n : Nat), n < 256 → ((IntKind.u8.wrap (BitVec.ofInt 8 (n : Int) ||| BitVec.ofInt 8 32).toNat) == (c : Int)) = decide ((Zpj (UInt8.ofNat n)).toNat = c) := by
  intro c hc
  rcases hc with rfl | rfl | rfl <;> decide +kernel
theorem ZsE {b : UInt8} {c : UInt8} (hc : c.toNat = 118 ∨ c.toNat = 97 ∨ c.toNat = 114) : ((IntKind.u8.wrap (BitVec.ofInt (IntKind.u8).bits (b.toNat : Int) ||| BitVec.ofInt (IntKind.u8).bits (32 : Int)).toNat) == (c.toNat : Int)) = (Zpj b == c) := by
  have h := Ydy c.toNat hc b.toNat b.toNat_lt
  rw [UInt8.ofNat_toNat] at h
  refine h.trans ?_
  rw [Bool.eq_iff_iff, decide_eq_true_iff, beq_iff_eq]
  exact ⟨UInt8.toNat_inj.1, fun h => h ▸ rfl⟩
theorem ZuU (v : Val) : Zhh 0 v = some v.ref := by
  unfold Zhh Val.ref
  cases e : (v.tok.k == 2)
  · rfl
  · simp only [cond_true, Option.bind_some, Bool.true_and]
    have h1 := fun b => ZsE (b := b) (c := 118) (Or.inl rfl)
    have h2 := fun b => ZsE (b := b) (c := 97) (Or.inr (Or.inl rfl))
    have h3 := fun b => ZsE (b := b) (c := 114) (Or.inr (Or.inr rfl))
    have c1 : (((118 : UInt8).toNat : Nat) : Int) = 118 := rfl
    have c2 : (((97 : UInt8).toNat : Nat) : Int) = 97 := rfl
    have c3 : (((114 : UInt8).toNat : Nat) : Int) = 114 := rfl
    rw [c1] at h1
    rw [c2] at h2
    rw [c3] at h3
    rcases v.tok.t with _ | ⟨a, _ | ⟨b, _ | ⟨c, _ | ⟨d, r⟩⟩⟩⟩
    · rfl
    · have : (Ze2 [a] == [118, 97, 114]) = false := by simp [Ze2]
      rw [this]; rfl
    · have : (Ze2 [a, b] == [118, 97, 114]) = false := by simp [Ze2]
      rw [this]; rfl
    · have e0 : (([a, b, c].length : Int) == 3) = true := rfl
      have g0 : ZeS [a, b, c] 0 = some a := rfl
      have g1 : ZeS [a, b, c] 1 = some b := rfl
      have g2 : ZeS [a, b, c] 2 = some c := rfl
      simp only [e0, g0, g1, g2, cond_true, Option.bind_some, h1]
      have hl : (Ze2 [a, b, c] == [118, 97, 114]) = (Zpj a == 118 && (Zpj b == 97 && Zpj c == 114)) := by
        simp only [Ze2, List.map_cons, List.map_nil, List.cons_beq_cons, Bool.and_true, beq_self_eq_true]
      rw [hl]
      cases e1 : (Zpj a == 118)
      · rfl
      · simp only [cond_true, Option.bind_some, h2]
        cases e2 : (Zpj b == 97)
        · rfl
        · simp only [cond_true, Option.bind_some, h3]
          rfl
    · have e0 : (((a :: b :: c :: d :: r).length : Int) == 3) = false := by
        simp only [List.length_cons, beq_eq_false_iff_ne]; omega
      have : (Ze2 (a :: b :: c :: d :: r) == [118, 97, 114]) = false := by simp [Ze2]
      rw [e0, this]; rfl
theorem Zsm {K : Zaa} (hK : Zcu K) : Zaj U (Zab C K) 55 ⟨true, [.ty 51], [4], fun v => some v.ref⟩ :=
  ZkI (kf hK 55 (by decide)) _ fun a r h => by cases h; exact ⟨0, ZuU a⟩
def YaW (l : List Val) : Option Bool := if Zak l ≤ B then some (Zbx l) else none
theorem ZrB {l : List Val} (h : Zak l ≤ B) : YaW l = some (Zbx l) := if_pos h
def Zgo : List Val → Int → Int
  | [], _ => -1
  | v :: r, i => if v.hasv then i else Zgo r (i + 1)
theorem Zyb (l : List Val) : ∀ i : Nat, decide (Zgo l (i : Int) ≥ 0) = Zbx l := by
  induction l with
  | nil => intro i; rfl
  | cons v r ih =>
    intro i
    by_cases h : v.hasv = true
    · have e : Zgo (v :: r) (i : Int) = i := by simp only [Zgo, h, if_true]
      rw [e, Zbx, h]; simp
    · have e : Zgo (v :: r) (i : Int) = Zgo r ((i + 1 : Nat) : Int) := by simp only [Zgo, if_neg h]; rfl
      rw [e, ih (i + 1), Zbx, (Bool.not_eq_true _).mp h, Bool.false_or]
def sV1 (k : Nat) (v : Val) : Option Bool := if Zak v.l < k ∧ v.tot ≤ B then some v.hasv else none
def sV2 (k : Nat) (l : List Val) : Option Int := if Zak l < k + 1 ∧ Zak l ≤ B then some (Zgo l 0) else none
def sV3 (k : Nat) (l : List Val) : Option Bool := if Zak l < k + 1 ∧ Zak l ≤ B then some (Zbx l) else none
theorem Yb3 (k : Nat) (v : Val) (h1 : Zak v.l < k) (h2 : v.tot ≤ B) : Zf4 Yev (below Zak k YaW) 0 v = some v.hasv := by
  have he := v.tot_eq
  have hbel : below Zak k YaW v.l = some (Zbx v.l) := (ZdU (show Zak v.l < k by omega)).trans (ZrB (by omega))
  unfold Zf4
  simp only [YbP (show v.tok.t.length ≤ B by omega), hbel, Option.bind_some]
  rw [Val.hasv_eq, Val.ref]
  cases e1 : (v.tok.k == 2) <;> cases e2 : (Ze2 v.tok.t == [118, 97, 114]) <;> cases e5 : Zbx v.l <;> first | rfl | simp [e2]
theorem Ybe (k : Nat) (l : List Val) (h1 : Zak l < k + 1) (h2 : Zak l ≤ B) : Zat (sV1 k) (l.length + 1) l = some (Zgo l 0) := by
  have hB : B = 2 ^ 36 := rfl
  unfold Zat
  refine (Zc5 l (fun (_ : Nat) => (0 : Int)) (fun b v => if v.hasv then .inr (some (b : Int)) else .inl (b + 1)) (fun b => some (-1 : Int)) (fun i b => b = i) ?_ ?_ ?_ 0 rfl _ (Nat.lt_succ_self _)).trans ?_
  · intro i b v k' hv hlt hb
    subst hb
    have hmem := List.mem_of_getElem? hv
    have hs := ZeR hmem
    have hm := Zk0 hmem
    have hl := ZeH l
    have h3 : sV1 k (Val.mk v.tok v.l) = some v.hasv := by rw [Val.eta]; exact if_pos ⟨by omega, by omega⟩
    simp (disch := omega) only [Zap, Zbg hv, Option.bind_some, dlt hlt, cond_true, h3, Zdw]
    cases v.hasv <;> rfl
  · intro i b v b' hv hb hs
    subst hb
    cases e : v.hasv <;> rw [e] at hs <;> cases hs
    rfl
  · intro b k' hb
    simp only [Zap, Zpk, cond_false]
  · clear h1 h2
    have : ∀ (l : List Val) (b : Nat), Zmm (fun (b : Nat) (v : Val) => if v.hasv then .inr (some (b : Int)) else .inl (b + 1)) (fun _ => some (-1 : Int)) l b = some (Zgo l (b : Int)) := by
      intro l
      induction l with
      | nil => intro b; rfl
      | cons v l ih =>
        intro b
        simp only [Zmm, Zgo]
        cases v.hasv with
        | true => rfl
        | false => exact ih (b + 1)
    exact this l 0
theorem Ydx {K : Zaa} (hK : Zcu K) : Zaj U (Zab C K) 14 ⟨true, [.ty 22], [4], YaW⟩ :=
  Zd8 (U := U) (ak := [.ty 22]) (rts := [4]) Zak YaW fun k ih =>
    have m1 : Zaj U (Zab C K) 40 ⟨true, [.ty 51], [4], sV1 k⟩ := ZjE (kf hK 40 (by decide)) _ _ (Ycs hK) ih _ fun a r h => by
      unfold sV1 at h
      split at h
      · rename_i h3; cases h; exact ⟨0, Yb3 k a h3.1 h3.2⟩
      · cases h
    have m2 : Zaj U (Zab C K) 60 ⟨true, [.ty 22, .fn 40], [3], sV2 k⟩ := Zbl (kf hK 60 (by decide)) _ m1 _ fun a r h => by
      unfold sV2 at h
      split at h
      · rename_i h3; cases h; exact ⟨_, Ybe k a h3.1 h3.2⟩
      · cases h
    have m3 : Zaj U (Zab C K) 39 ⟨true, [.ty 22, .fn 40], [4], sV3 k⟩ := Zba (kf hK 39 (by decide)) _ m2 _ fun a r h => by
      unfold sV3 at h
      split at h
      · rename_i h3; cases h
        refine ⟨0, ?_⟩
        unfold Zax
        rw [show sV2 k a = some (Zgo a 0) from if_pos h3]
        exact congrArg some (Zyb a 0)
      · cases h
    Zlp (kf hK 14 (by decide)) _ m3 _ fun a r h => by
      obtain ⟨h1, h2⟩ := Zc6 h
      unfold YaW at h2
      split at h2
      · rename_i h3; cases h2
        refine ⟨0, ?_⟩
        unfold Zl3
        rw [show sV3 k a = some (Zbx a) from if_pos ⟨h1, h3⟩]
        rfl
      · cases h2
end Go.Tev.S1
namespace Go.Tev
open Go.Abs
mutual
def Val.siz (lim : Int) : Val → Int
  | .mk t l => IntKind.i64.wrap ((IntKind.i64.wrap ((IntKind.i64.wrap ((1 : Int) + (t.t.length : Int))) + (t.u.length : Int))) + ZvC lim 0 l)
def ZvC (lim acc : Int) : List Val → Int
  | [] => acc
  | v :: r => if acc ≤ lim then ZvC lim (IntKind.i64.wrap (acc + v.siz (IntKind.i64.wrap (lim - acc)))) r else acc
end
theorem Val.siz_eq (lim : Int) (v : Val) : v.siz lim = IntKind.i64.wrap ((IntKind.i64.wrap ((IntKind.i64.wrap ((1 : Int) + (v.tok.t.length : Int))) + (v.tok.u.length : Int))) + ZvC lim 0 v.l) := by cases v; rfl
mutual
def Val.eqb : Val → Val → Bool
  | .mk t l, .mk t' l' => Tok.eqb t t' && ZuA l l'
def ZuA : List Val → List Val → Bool
  | [], [] => true
  | v :: r, v' :: r' => v.eqb v' && ZuA r r'
  | _, _ => false
end
end Go.Tev
namespace Go.Tev.S1
open Go.Abs Go.Proofs
def Zms (a : List Val × Int) : Option Int := if Zak a.1 ≤ B then some (ZvC a.2 0 a.1) else none
theorem ZnY {l : List Val} {c : Int} (h : Zak l ≤ B) : Zms (l, c) = some (ZvC c 0 l) := if_pos h
theorem ZwU (lim : Int) (l : List Val) (k : Nat) (h1 : Zak l < k + 1) (h2 : Zak l ≤ B) : Zhk (below (fun a : List Val × Int => Zak a.1) k Zms) (l.length + 2) l lim = some (ZvC lim 0 l) := by
  have hB : B = 2 ^ 36 := rfl
  unfold Zhk Zgb
  have main : ∀ (r : List Val) (i : Nat) (acc : Int) (fuel : Nat), l.drop i = r → i ≤ l.length → r.length + 1 < fuel → Zgu (fun y k_1 => ZcA (below (fun a : List Val × Int => Zak a.1) k Zms) (l.length + 2) l lim 0 (fun z1 => some z1) y.1 y.2.1 fun a0 a1 => k_1 (a0, a1, ())) fuel (acc, (i : Int), ()) = some (ZvC lim acc r) := by
    intro r
    induction r with
    | nil =>
      intro i acc fuel hr hi hf
      obtain ⟨n, rfl⟩ : ∃ n, fuel = n + 1 := ⟨fuel - 1, by omega⟩
      have : i = l.length := by
        have := congrArg List.length hr
        simp at this; omega
      subst this
      simp only [Zgu, ZcA, Zpk, cond_false, Option.bind_some, ZvC]
    | cons v r ih =>
      intro i acc fuel hr hi hf
      obtain ⟨n, rfl⟩ : ∃ n, fuel = n + 1 := ⟨fuel - 1, by omega⟩
      have hv : l[i]? = some v := by
        have := congrArg (fun x => x[0]?) hr
        simpa using this
      have hlt : i < l.length := (List.getElem?_eq_some_iff.1 hv).1
      have hr' : l.drop (i + 1) = r := by rw [← List.drop_drop, hr]; rfl
      have hmem := List.mem_of_getElem? hv
      have hs := ZeR hmem
      have hl := ZeH l
      have hbel : below (fun a : List Val × Int => Zak a.1) k Zms (v.l, IntKind.i64.wrap (lim - acc)) = some (ZvC (IntKind.i64.wrap (lim - acc)) 0 v.l) := (ZdU (sz := fun a : List Val × Int => Zak a.1) (show Zak v.l < k by omega)).trans (ZnY (by omega))
      rw [ZvC, Val.siz_eq]
      by_cases hc : acc ≤ lim
      · have e1 : decide (acc ≤ lim) = true := decide_eq_true hc
        rw [if_pos hc]
        simp only [Zgu, ZcA, dlt hlt, cond_true, Option.bind_some, e1, Zbg hv, hbel]
        rw [Za7 (by omega)]
        exact ih (i + 1) _ n hr' (by omega) (by simp at hf; omega)
      · have e1 : decide (acc ≤ lim) = false := decide_eq_false hc
        rw [if_neg hc]
        simp only [Zgu, ZcA, dlt hlt, cond_true, cond_false, Option.bind_some, e1]
  exact main l 0 0 (l.length + 2) rfl (Nat.zero_le _) (by omega)
theorem YaZ {K : Zaa} (hK : Zcu K) : Zaj U (Zab C K) 27 ⟨true, [.ty 22, .ty 3], [3], Zms⟩ :=
  Zd8 (U := U) (ak := [.ty 22, .ty 3]) (rts := [3]) (fun a : List Val × Int => Zak a.1) Zms fun k ih => Zkz (kf hK 27 (by decide)) _ ih _ fun a r h => by
    obtain ⟨h1, h2⟩ := Zc6 h
    unfold Zms at h2
    split at h2
    · rename_i h3; cases h2; exact ⟨_, ZwU a.2 a.1 k h1 h3⟩
    · cases h2
def Zxk (l : List Val) : Bool := decide (ZvC 300 0 l > 300) || decide (Zfp l > 40)
def Zqr (l : List Val) : Option Bool := if Zak l ≤ B then some (Zxk l) else none
theorem ZwO {l : List Val} (h : Zak l ≤ B) : Zqr l = some (Zxk l) := if_pos h
theorem ZvB (l : List Val) (h : Zak l ≤ B) : Zf5 Zms ZrU 0 l = some (Zxk l) := by
  unfold Zf5 Zxk
  rw [ZnY h, Zt0 h]
  simp only [Option.bind_some]
  have : decide ((Zfp l : Int) > 40) = decide (Zfp l > 40) := by simp; omega
  rw [← this]
  cases decide (ZvC 300 0 l > 300) <;> rfl
theorem Yct {K : Zaa} (hK : Zcu K) : Zaj U (Zab C K) 9 ⟨true, [.ty 22], [4], Zqr⟩ :=
  ZjQ (kf hK 9 (by decide)) _ _ (YaZ hK) (Yed (kf hK 28 (by decide)) (kf hK 47 (by decide))) _ fun a r h => by
    unfold Zqr at h
    split at h
    · rename_i h3; cases h; exact ⟨0, ZvB a h3⟩
    · cases h
def ZqK (a : List Val × List Val) : Option Bool := if Zak a.1 ≤ B ∧ Zak a.2 ≤ B then some (ZuA a.1 a.2) else none
theorem ZtG {l m : List Val} (h : Zak l ≤ B) (h2 : Zak m ≤ B) : ZqK (l, m) = some (ZuA l m) := if_pos ⟨h, h2⟩
theorem Val.eqb_eq (v w : Val) : v.eqb w = (Tok.eqb v.tok w.tok && ZuA v.l w.l) := by cases v; cases w; rfl
theorem ZtQ : ∀ (l m : List Val), l.length ≠ m.length → ZuA l m = false
  | [], [], h => absurd rfl h
  | [], _ :: _, _ => rfl
  | _ :: _, [], _ => rfl
  | v :: r, w :: s, h => by
    rw [ZuA, ZtQ r s (by simp at h; exact h), Bool.and_false]
theorem ZwC (l m : List Val) (k : Nat) (h1 : Zak l < k + 1) (h2 : Zak l ≤ B) (h3 : Zak m ≤ B) : Zht (below (fun a : List Val × List Val => Zak a.1) k ZqK) (l.length + 1) l m = some (ZuA l m) := by
  have hB : B = 2 ^ 36 := rfl
  unfold Zht
  by_cases hle : l.length = m.length
  · have e0 : ((l.length : Int) != (m.length : Int)) = false := by simp [hle]
    rw [e0, cond_false]
    refine (Zc5 (l.zip m) (fun (_ : Unit) => false) (fun b v => if v.1.eqb v.2 then .inl () else .inr (some false)) (fun b => some true) (fun i b => True) ?_ ?_ ?_ () trivial _ (by simp; omega)).trans ?_
    · intro i b v k' hv hlt hb
      have hz : i < l.length ∧ i < m.length := by simp at hlt; omega
      obtain ⟨hv1, hv2⟩ := List.getElem?_zip_eq_some.1 hv
      have hmem := List.mem_of_getElem? hv1
      have hmem2 := List.mem_of_getElem? hv2
      have hs := ZeR hmem
      have hs2 := ZeR hmem2
      have hl := ZeH l
      have hbel : below (fun a : List Val × List Val => Zak a.1) k ZqK (v.1.l, v.2.l) = some (ZuA v.1.l v.2.l) := (ZdU (sz := fun a : List Val × List Val => Zak a.1) (show Zak v.1.l < k by omega)).trans (ZtG (by omega) (by omega))
      simp (disch := omega) only [Zeq, Zbg hv1, Zbg hv2, Option.bind_some, dlt hz.1, cond_true, hbel, Zdw]
      have hi : (i : Int) + 1 = ((i + 1 : Nat) : Int) := rfl
      rw [hi, Val.eqb_eq]
      cases e1 : Tok.eqb v.1.tok v.2.tok <;> cases e5 : ZuA v.1.l v.2.l <;> rw [e5] at hbel <;> first | rfl | simp [hbel]
    · intro i b v b' hv hb hs
      trivial
    · intro b k' hb
      have : (l.zip m).length = l.length := by simp; omega
      rw [this]
      simp only [Zeq, Zpk, cond_false]
    · clear h1 h2 h3 e0
      induction l generalizing m with
      | nil => cases m with
        | nil => rfl
        | cons w m => simp at hle
      | cons v l ih => cases m with
        | nil => simp at hle
        | cons w m =>
          simp only [List.zip_cons_cons, Zmm, ZuA]
          cases v.eqb w with
          | true => simpa using ih m (by simp at hle; exact hle)
          | false => rfl
  · have e0 : ((l.length : Int) != (m.length : Int)) = true := by simp; omega
    rw [e0, ZtQ l m hle]; rfl
theorem Yd8 {K : Zaa} (hK : Zcu K) : Zaj U (Zab C K) 15 ⟨true, [.ty 22, .ty 22], [4], ZqK⟩ :=
  Zd8 (U := U) (ak := [.ty 22, .ty 22]) (rts := [4]) (fun a : List Val × List Val => Zak a.1) ZqK fun k ih => ZkD (kf hK 15 (by decide)) _ ih _ fun a r h => by
    obtain ⟨h1, h2⟩ := Zc6 h
    unfold ZqK at h2
    split at h2
    · rename_i h3; cases h2; exact ⟨_, ZwC a.1 a.2 k h1 h3.1 h3.2⟩
    · cases h2
end Go.Tev.S1
namespace Go.Tev.S1
open Go.Abs Go.Proofs
theorem ZxO (l : List Val) (k : Nat) (h1 : Zak l < k + 1) (h2 : Zak l ≤ B) : ZfK (below Zak k ZmY) (l.length + 1) l = some (Zak l : Int) := by
  have hB : B = 2 ^ 36 := rfl
  unfold ZfK
  refine (Zc5 l (fun (b : List Val) => (Zak b : Int)) (fun b v => .inl (b ++ [v])) (fun b => some (Zak b : Int)) (fun i b => b = l.take i) ?_ ?_ ?_ [] rfl _ (Nat.lt_succ_self _)).trans ?_
  · intro i b v k' hv hlt hb
    subst hb
    have hmem := List.mem_of_getElem? hv
    have hs := ZeR hmem
    have ht := Zub hv
    have hle := ZeL l (i + 1)
    have hl := ZeH l
    have he := v.tot_eq
    have hbel : below Zak k ZmY v.l = some (Zak v.l : Int) := (ZdU (show Zak v.l < k by omega)).trans (ZiG (by omega))
    simp (disch := omega) only [Zd0, Zbg hv, Option.bind_some, dlt hlt, cond_true, hbel, Zdw]
    have hx : (Zak (l.take i) : Int) + (1 + (v.tok.t.length : Int) + (v.tok.u.length : Int) + (Zak v.l : Int)) = (Zak (l.take i ++ [v]) : Int) := by
      rw [Zez]; simp only [Zak]; omega
    rw [hx]; rfl
  · intro i b v b' hv hb hs
    cases hs
    rw [ZbG hv, hb]
  · intro b k' hb
    simp only [Zd0, Zpk, cond_false]
  · rw [Zdl (fun (b : List Val) (v : Val) => b ++ [v]), Zfz]
theorem Zs4 {K : Zaa} (hK : Zcu K) : Zaj U (Zab C K) 44 ⟨true, [.ty 22], [3], ZmY⟩ :=
  Zd8 (U := U) (ak := [.ty 22]) (rts := [3]) Zak ZmY fun k ih => Zj0 (kf hK 44 (by decide)) _ ih _ fun a r h => by
    obtain ⟨h1, h2⟩ := Zc6 h
    obtain ⟨h3, rfl⟩ := Zu4 h2
    exact ⟨_, ZxO a k h1 h3⟩
def Ydk (l : List Val) : Int × Int := if ZaE l = 0 then ((Zak l : Int), 0) else (0, ZaE l)
def Yeo (l : List Val) : Option (Int × Int) := if Zak l ≤ B then some (Ydk l) else none
theorem Ydi {l : List Val} (h : Zak l ≤ B) : Yeo l = some (Ydk l) := if_pos h
theorem Zsh (l : List Val) (h : Zak l ≤ B) : ZfQ ZiV ZmY 0 l = some (Ydk l) := by
  unfold ZfQ Ydk
  rw [ZeD h, ZiG h]
  simp only [Option.bind_some]
  by_cases h : ZaE l = 0
  · have : (ZaE l != 0) = false := by simpa using h
    rw [this, if_pos h]; rfl
  · have : (ZaE l != 0) = true := by simpa using h
    rw [this, if_neg h]; rfl
theorem Zzb {K : Zaa} (hK : Zcu K) : Zaj U (Zab C K) 24 ⟨true, [.ty 22], [3, 28], Yeo⟩ :=
  Zjm (kf hK 24 (by decide)) _ _ (ZdO (kf hK 33 (by decide)) (kf hK 52 (by decide)) (kf hK 66 (by decide))) (Zs4 hK) _ fun a r h => by
    unfold Yeo at h
    split at h
    · rename_i h3; cases h; exact ⟨0, Zsh a h3⟩
    · cases h
theorem Zm4 {R : Type} (G : List Val → (List Val → Option R) → Option R) (kx : List Val → Option R)
    (hG : ∀ l k, G l k = match l with
      | [] => kx []
      | v :: r => if sp v then k r else kx (v :: r)) : ∀ (l : List Val) (n : Nat), l.length < n → Zuk G n l = kx (spL l)
  | [], n, h => by
    obtain ⟨n, rfl⟩ : ∃ m, n = m + 1 := ⟨n - 1, by omega⟩
    rw [Zg9, hG]; rfl
  | v :: r, n, h => by
    obtain ⟨n, rfl⟩ : ∃ m, n = m + 1 := ⟨n - 1, by omega⟩
    rw [Zg9, hG, spL]
    simp only
    by_cases hv : sp v = true
    · rw [if_pos hv, if_pos hv]
      exact Zm4 G kx hG r n (by simp at h; omega)
    · rw [if_neg hv, if_neg hv]
theorem Zwu {R : Type} (G : List Val → (List Val → Option R) → Option R) (kx : List Val → Option R)
    (h0 : ∀ k, G [] k = kx []) (hG : ∀ l v k, l.length < 2 ^ 62 → G (l ++ [v]) k = if sp v then k l else kx (l ++ [v])) : ∀ (m l : List Val) (n : Nat), l.reverse = m → l.length < n → l.length < 2 ^ 62 → Zuk G n l = kx (trR l)
  | [], l, n, e, h, hb => by
    have : l = [] := by simpa using e
    subst this
    obtain ⟨n, rfl⟩ : ∃ m, n = m + 1 := ⟨n - 1, by omega⟩
    rw [Zg9, h0]; rfl
  | v :: r, l, n, e, h, hb => by
    have : l = r.reverse ++ [v] := by rw [← List.reverse_reverse l, e]; simp
    subst this
    simp at hb h
    obtain ⟨n, rfl⟩ : ∃ m, n = m + 1 := ⟨n - 1, by omega⟩
    rw [Zg9, hG _ _ _ (by simp; omega)]
    have e2 : trR (r.reverse ++ [v]) = if sp v then trR r.reverse else r.reverse ++ [v] := by
      unfold trR
      rw [e, spL]
      split
      · simp
      · simp
    rw [e2]
    by_cases hv : sp v = true
    · rw [if_pos hv, if_pos hv]
      exact Zwu G kx h0 hG r r.reverse n (by simp) (by simp; omega) (by simp; omega)
    · rw [if_neg hv, if_neg hv]
theorem Zxx {v : Val} {r : List Val} : ZeS (v :: r) 0 = some v := rfl
theorem ZlP {v : Val} {r : List Val} : Zui (v :: r) 1 ((v :: r).length : Int) = some r := by
  unfold Zui
  rw [if_pos (by simp; omega)]
  simp
theorem Zzi {v : Val} {r : List Val} : decide (((v :: r).length : Int) > 0) = true := by simp
theorem Zv6 {l : List Val} {v : Val} : ZeS (l ++ [v]) (l.length : Int) = some v := Zbg (by simp)
theorem Zv3 {l : List Val} {v : Val} : Zui (l ++ [v]) 0 (l.length : Int) = some l := by
  unfold Zui
  rw [if_pos (by simp; omega)]
  simp
theorem Zse (l : List Val) : Zf1 (l.length + 1) l = some (spL l) := by
  unfold Zf1
  refine Zm4 _ (fun z => some z) ?_ l _ (Nat.lt_succ_self _)
  intro l k
  cases l with
  | nil => rfl
  | cons v r =>
    simp only [Zfg, Zzi, cond_true, Zxx, Option.bind_some, ZlP, sp]
    exact Bool.cond_eq_ite _ _ _
theorem Zs8 {K : Zaa} (hK : Zcu K) : Zaj U (Zab C K) 67 ⟨true, [.ty 22], [22], fun l => some (spL l)⟩ :=
  ZjF (kf hK 67 (by decide)) _ fun a r h => by cases h; exact ⟨_, Zse a⟩
def Yah (l : List Val) : Option (List Val) := if Zak l ≤ B then some (trL l) else none
theorem Zzx {l : List Val} (h : Zak l ≤ B) : Yah l = some (trL l) := if_pos h
theorem Zxb {l : List Val} {v : Val} (h : l.length < 2 ^ 62) : IntKind.i64.wrap (((l ++ [v]).length : Int) - 1) = (l.length : Int) := by
  rw [Zdw (by simp <;> omega) (by simp <;> omega)]; simp only [List.length_append, List.length_cons, List.length_nil]; omega
theorem ZzO {v : Val} {r : List Val} : decide (((r ++ [v]).length : Int) > 0) = true := by simp
theorem Zx6 (l : List Val) (h : Zak l ≤ B) : Zja (fun l => some (spL l)) ((spL l).length + 1) l = some (trL l) := by
  have hB : B = 2 ^ 36 := rfl
  unfold Zja
  simp only [Option.bind_some]
  have h1 := ZeH (spL l)
  have h2 := ZkY l
  refine Zwu _ (fun z => some z) ?_ ?_ _ (spL l) _ rfl (Nat.lt_succ_self _) (by omega)
  · intro k; rfl
  · intro l v k hl
    simp only [ZgC, ZzO, cond_true, Zxb hl, Zv6, Option.bind_some, Zv3, sp]
    exact Bool.cond_eq_ite _ _ _
theorem Yel {K : Zaa} (hK : Zcu K) : Zaj U (Zab C K) 68 ⟨true, [.ty 22], [22], Yah⟩ :=
  Zmk (kf hK 68 (by decide)) _ (Zs8 hK) _ fun a r h => by
    unfold Yah at h
    split at h
    · rename_i h3; cases h; exact ⟨_, Zx6 a h3⟩
    · cases h
end Go.Tev.S1
namespace Go.Tev.S1
open Go.Abs Go.Proofs
def Zm8 (v : Val) : Option (List UInt8 × List Val × Bool) := if v.tot ≤ B then some (Zaw v.l) else none
theorem Zmc {v : Val} (h : v.tot ≤ B) : Zm8 v = some (Zaw v.l) := if_pos h
theorem Zto {α : Type} {v : α} {r : List α} : (((v :: r).length : Int) == 0) = false := by simp; omega
theorem Zut (v : Val) (h : v.tot ≤ B) : Zhm (fun l => some (spL l)) (fun p => some (ZbT p)) Yah 0 v = some (Zaw v.l) := by
  have he := v.tot_eq
  have hs := ZkY v.l
  unfold Zhm Zaw
  simp only [Option.bind_some]
  cases e : spL v.l with
  | nil => rfl
  | cons x r =>
    rw [e] at hs
    simp only [Zak] at hs
    have hs2 := ZkY r
    simp only [Zto, Bool.not_false, cond_true, cond_false, Zxx, Option.bind_some, ZlP]
    by_cases h1 : x.tok.k = 1
    · have e1 : (x.tok.k != 1) = false := by simpa using h1
      by_cases h2 : ZbT x.tok.t = true
      · rw [if_pos ⟨h1, h2⟩]
        simp only [e1, h2, Bool.not_false, Bool.not_true, cond_true, cond_false, Option.bind_some]
        cases e3 : spL r with
        | nil => rfl
        | cons y s =>
          rw [e3] at hs2
          simp only [Zak] at hs2
          simp only [Zto, cond_false, Zxx, Option.bind_some, ZlP, Zzx (show Zak s ≤ B by omega)]
          by_cases h4 : y.tok.k = 18
          · rw [if_pos h4, h4]; rfl
          · have e4 : (y.tok.k == 18) = false := by simpa using h4
            rw [if_neg h4, e4]; rfl
      · rw [if_neg (fun hh => h2 hh.2)]
        have h2' : ZbT x.tok.t = false := (Bool.not_eq_true _).mp h2
        simp only [e1, h2', Bool.not_false, cond_true, cond_false, Option.bind_some]
    · have e1 : (x.tok.k != 1) = true := by simpa using h1
      rw [if_neg (fun hh => h1 hh.1)]
      simp only [e1, Bool.not_true, cond_true, cond_false, Option.bind_some]
theorem Zsf {K : Zaa} (hK : Zcu K) : Zaj U (Zab C K) 56 ⟨true, [.ty 51], [9, 22, 4], Zm8⟩ :=
  ZkC (kf hK 56 (by decide)) _ _ _ (Zs8 hK) (Ztx hK) (Yel hK) _ fun a r h => by
    unfold Zm8 at h
    split at h
    · rename_i h3; cases h; exact ⟨0, Zut a h3⟩
    · cases h
end Go.Tev.S1
namespace Go.Tev
open Go.Abs
abbrev V : Nat := 2 ^ 24
abbrev Lk := List UInt8 → Option (List Val)
theorem Zsr (v : Val) (r : List Val) : Zak r < Zak (v :: r) := by
  simp only [Zak, Val.tot_eq]; omega
theorem Zty (v : Val) (r : List Val) : Zak v.l < Zak (v :: r) := by
  simp only [Zak, Val.tot_eq]; omega
theorem Zk3 (v : Val) (r : List Val) : Zak (Zaw v.l).2.1 < Zak (v :: r) :=
  Nat.lt_of_le_of_lt (Ziy v.l) (Zty v r)
def ZkO (a b : Option Nat) : Option Nat := match a, b with
  | some m, some n => some (m + n)
  | _, _ => none
theorem ZeI {a b : Option Nat} {n : Nat} (h : ZkO a b = some n) : ∃ x y, a = some x ∧ b = some y ∧ n = x + y := by
  unfold ZkO at h
  split at h
  · exact ⟨_, _, rfl, rfl, (Option.some.inj h).symm⟩
  · cases h
def ZeA (lk : Lk) : List Val → Option Nat
  | [] => some 0
  | v :: r => ZkO (if v.ref then (match lk (Zaw v.l).1 with
      | some x => some (Zak x)
      | none => if (Zaw v.l).2.2 then ZeA lk (Zaw v.l).2.1 else none)
    else ZkO (some (1 + v.tok.t.length + v.tok.u.length)) (ZeA lk v.l)) (ZeA lk r)
termination_by l => Zak l
decreasing_by
  · exact Zk3 v r
  · exact Zty v r
  · exact Zsr v r
def Zsn (lk : Lk) (v : Val) : Option Nat := if v.ref then (match lk (Zaw v.l).1 with
      | some x => some (Zak x)
      | none => if (Zaw v.l).2.2 then ZeA lk (Zaw v.l).2.1 else none)
    else ZkO (some (1 + v.tok.t.length + v.tok.u.length)) (ZeA lk v.l)
theorem ZoC {lk : Lk} {v : Val} (h : v.ref = false) : Zsn lk v = ZkO (some (1 + v.tok.t.length + v.tok.u.length)) (ZeA lk v.l) := by
  unfold Zsn; rw [if_neg (by rw [h]; decide)]
theorem Zs0 {lk : Lk} {v : Val} {x : List Val} (h : v.ref = true) (h2 : lk (Zaw v.l).1 = some x) : Zsn lk v = some (Zak x) := by
  unfold Zsn; rw [if_pos h, h2]
theorem Ztk {lk : Lk} {v : Val} (h : v.ref = true) (h2 : lk (Zaw v.l).1 = none) (h3 : (Zaw v.l).2.2 = true) : Zsn lk v = ZeA lk (Zaw v.l).2.1 := by
  unfold Zsn; rw [if_pos h, h2]; simp only [h3, if_true]
theorem Ztj {lk : Lk} {v : Val} (h : v.ref = true) (h2 : lk (Zaw v.l).1 = none) (h3 : (Zaw v.l).2.2 = false) : Zsn lk v = none := by
  unfold Zsn; rw [if_pos h, h2]; simp [h3]
theorem Zc9 (lk : Lk) : ZeA lk [] = some 0 := by rw [ZeA]
theorem ZcH (lk : Lk) (v : Val) (r : List Val) : ZeA lk (v :: r) = ZkO (Zsn lk v) (ZeA lk r) := by rw [ZeA]; rfl
theorem Zuj (a b c : Option Nat) : ZkO (ZkO a b) c = ZkO a (ZkO b c) := by
  cases a <;> cases b <;> cases c <;> simp [ZkO, Nat.add_assoc]
theorem ZwZ (a : Option Nat) : ZkO (some 0) a = a := by cases a <;> simp [ZkO]
theorem ZuI (a : Option Nat) : ZkO a (some 0) = a := by cases a <;> simp [ZkO]
theorem ZhZ (lk : Lk) (a b : List Val) : ZeA lk (a ++ b) = ZkO (ZeA lk a) (ZeA lk b) := by
  induction a with
  | nil => rw [Zc9, ZwZ]; rfl
  | cons v a ih => rw [List.cons_append, ZcH, ZcH, ih, Zuj]
theorem ZxB (lk : Lk) (a : List Val) (v : Val) : ZeA lk (a ++ [v]) = ZkO (ZeA lk a) (Zsn lk v) := by
  rw [ZhZ, ZcH, Zc9, ZuI]
def Zeg (lk : Lk) : List Val → List Val
  | [] => []
  | v :: r => (if v.ref then (match lk (Zaw v.l).1 with
      | some x => x
      | none => Zeg lk (Zaw v.l).2.1)
    else [Val.mk v.tok (Zeg lk v.l)]) ++ Zeg lk r
termination_by l => Zak l
decreasing_by
  · exact Zk3 v r
  · exact Zty v r
  · exact Zsr v r
def ZuT (lk : Lk) (v : Val) : List Val := if v.ref then (match lk (Zaw v.l).1 with
      | some x => x
      | none => Zeg lk (Zaw v.l).2.1)
    else [Val.mk v.tok (Zeg lk v.l)]
theorem ZrX {lk : Lk} {v : Val} (h : v.ref = false) : ZuT lk v = [Val.mk v.tok (Zeg lk v.l)] := by
  unfold ZuT; rw [if_neg (by rw [h]; decide)]
theorem YaF {lk : Lk} {v : Val} {x : List Val} (h : v.ref = true) (h2 : lk (Zaw v.l).1 = some x) : ZuT lk v = x := by
  unfold ZuT; rw [if_pos h, h2]
theorem Yad {lk : Lk} {v : Val} (h : v.ref = true) (h2 : lk (Zaw v.l).1 = none) : ZuT lk v = Zeg lk (Zaw v.l).2.1 := by
  unfold ZuT; rw [if_pos h, h2]
theorem Ze5 (lk : Lk) : Zeg lk [] = [] := by rw [Zeg]
theorem Zea (lk : Lk) (v : Val) (r : List Val) : Zeg lk (v :: r) = ZuT lk v ++ Zeg lk r := by rw [Zeg]; rfl
theorem ZrS (lk : Lk) (a b : List Val) : Zeg lk (a ++ b) = Zeg lk a ++ Zeg lk b := by
  induction a with
  | nil => rw [Ze5]; rfl
  | cons v a ih => rw [List.cons_append, Zea, Zea, ih, List.append_assoc]
theorem Zrr (lk : Lk) (a : List Val) (v : Val) : Zeg lk (a ++ [v]) = Zeg lk a ++ ZuT lk v := by
  rw [ZrS, Zea, Ze5, List.append_nil]
theorem Zhb (P : List Val → Prop) (h0 : P []) (h1 : ∀ v r, P r → P v.l → P (Zaw v.l).2.1 → P (v :: r)) : ∀ l, P l := by
  have : ∀ (n : Nat) l, Zak l < n → P l := by
    intro n
    induction n with
    | zero => intro l h; omega
    | succ n ih =>
      intro l h
      cases l with
      | nil => exact h0
      | cons v r =>
        have a1 := Zsr v r
        have a2 := Zty v r
        have a3 := Zk3 v r
        exact h1 v r (ih _ (by omega)) (ih _ (by omega)) (ih _ (by omega))
  exact fun l => this _ l (Nat.lt_succ_self _)
theorem ZxL (lk : Lk) : ∀ l m, ZeA lk l = some m → Zak (Zeg lk l) = m := by
  refine Zhb _ ?_ ?_
  · intro m h
    rw [Zc9] at h
    cases h
    rw [Ze5]; rfl
  · intro v r h1 h2 h3 m h
    rw [ZcH] at h
    obtain ⟨x, y, hx, hy, rfl⟩ := ZeI h
    rw [Zea, Zez, h1 y hy]
    congr 1
    unfold Zsn at hx
    unfold ZuT
    split at hx
    · rename_i hv
      rw [if_pos hv]
      split at hx
      · rename_i z hz
        exact Option.some.inj hx
      · rename_i hz
        split at hx
        · exact h3 x hx
        · cases hx
    · rename_i hv
      rw [if_neg hv]
      obtain ⟨a, b, ha, hb, rfl⟩ := ZeI hx
      cases ha
      simp only [Zak, Val.tot, h2 b hb]
      rfl
theorem YdB (lk : Lk) (W : Nat) (hW : 1 ≤ W) (hlk : ∀ n x, lk n = some x → Zak x ≤ W) : ∀ l m, ZeA lk l = some m → m ≤ Zak l * W := by
  refine Zhb _ ?_ ?_
  · intro m h
    rw [Zc9] at h
    cases h
    omega
  · intro v r h1 h2 h3 m h
    rw [ZcH] at h
    obtain ⟨x, y, hx, hy, rfl⟩ := ZeI h
    have hr := h1 y hy
    simp only [Zak, Nat.add_mul]
    suffices x ≤ v.tot * W by omega
    have ht : 1 * W ≤ v.tot * W := Nat.mul_le_mul_right _ (by rw [Val.tot_eq]; omega)
    unfold Zsn at hx
    split at hx
    · split at hx
      · rename_i z hz
        have := hlk _ _ hz
        cases hx
        omega
      · split at hx
        · have h4 := h3 x hx
          have h5 : Zak (Zaw v.l).2.1 * W ≤ v.tot * W := Nat.mul_le_mul_right _ (by have := Ziy v.l; rw [Val.tot_eq]; omega)
          omega
        · cases hx
    · obtain ⟨a, b, ha, hb, rfl⟩ := ZeI hx
      cases ha
      have h4 := h2 b hb
      rw [Val.tot_eq, Nat.add_mul (1 + v.tok.t.length + v.tok.u.length)]
      have h5 : (1 + v.tok.t.length + v.tok.u.length) * 1 ≤ (1 + v.tok.t.length + v.tok.u.length) * W := Nat.mul_le_mul_left _ hW
      omega
theorem ZyZ (lk : Lk) : ∀ l, Zbx l = false → Zeg lk l = l := by
  refine Zhb _ ?_ ?_
  · intro h; exact Ze5 lk
  · intro v r h1 h2 h3 h
    rw [Zbx, Bool.or_eq_false_iff, Val.hasv_eq, Bool.or_eq_false_iff] at h
    rw [Zea, h1 h.2, ZuT, if_neg (by rw [h.1.1]; decide), h2 h.1.2, Val.eta]
    rfl
theorem Zt1 (lk : Lk) : ∀ l, Zbx l = false → ZeA lk l = some (Zak l) := by
  refine Zhb _ ?_ ?_
  · intro h; exact Zc9 lk
  · intro v r h1 h2 h3 h
    rw [Zbx, Bool.or_eq_false_iff, Val.hasv_eq, Bool.or_eq_false_iff] at h
    rw [ZcH, h1 h.2, Zsn, if_neg (by rw [h.1.1]; decide), h2 h.1.2]
    simp only [ZkO, Zak, Val.tot_eq]
def lkM (m : List (List UInt8 × List Val)) : Lk := fun n => ZaV BEq.beq n m
def lkC : List Cus → Lk
  | [], _ => none
  | c :: r, n => if c.name == n then some c.val else lkC r n
def ZcG : List Cus → List UInt8 → Int → Int
  | [], _, _ => -1
  | c :: r, n, i => if c.name == n then i else ZcG r n (i + 1)
theorem ZvF {m : List (List UInt8 × List Val)} {n : List UInt8} {x : List Val} (h : lkM m n = some x) : ∃ p ∈ m, p.2 = x := by
  induction m with
  | nil => cases h
  | cons p m ih =>
    obtain ⟨k, v⟩ := p
    simp only [lkM, ZaV] at h
    cases e : (n == k) <;> rw [e] at h
    · obtain ⟨q, hq, hx⟩ := ih h
      exact ⟨q, List.mem_cons_of_mem _ hq, hx⟩
    · cases h
      exact ⟨_, List.mem_cons_self, rfl⟩
theorem Ya9 {c : List Cus} {n : List UInt8} {x : List Val} (h : lkC c n = some x) : ∃ p ∈ c, p.val = x := by
  induction c with
  | nil => cases h
  | cons p m ih =>
    simp only [lkC] at h
    split at h
    · cases h; exact ⟨_, List.mem_cons_self, rfl⟩
    · obtain ⟨q, hq, hx⟩ := ih h
      exact ⟨q, List.mem_cons_of_mem _ hq, hx⟩
theorem ZjH (c : List Cus) (n : List UInt8) : ∀ (i : Nat), (ZcG c n i = -1 ∧ lkC c n = none) ∨ (∃ j x, ZcG c n i = ((i + j : Nat) : Int) ∧ c[j]? = some x ∧ lkC c n = some x.val) := by
  induction c with
  | nil => intro i; exact .inl ⟨rfl, rfl⟩
  | cons p c ih =>
    intro i
    simp only [ZcG, lkC]
    by_cases h : (p.name == n) = true
    · rw [if_pos h, if_pos h]
      exact .inr ⟨0, p, rfl, rfl, rfl⟩
    · rw [if_neg h, if_neg h]
      rcases ih (i + 1) with ⟨h1, h2⟩ | ⟨j, x, h1, h2, h3⟩
      · exact .inl ⟨h1, h2⟩
      · refine .inr ⟨j + 1, x, ?_, h2, h3⟩
        have : (i : Int) + 1 = ((i + 1 : Nat) : Int) := rfl
        rw [this, h1]
        omega
end Go.Tev
namespace Go.Tev
open Go.Abs
section
variable {x : Cx} {ρ : List Rf} {h0 : Base} {s : TSt x.X} {a : St}
def LawP (x : Cx) (h0 : Base) (call : Zaa) (fa : FA) (n m : Nat) (c : Code) {R : Type} (L : Ycp x.U R) : Prop := ∀ (k : TOut x.X → Option R) (s : TSt x.X) (z : R), s.tmp = [] → L k s = some z → ∀ e0 ρ a, (∀ t, (Zad s.env t).isSome = true → (Zad e0 t).isSome = true) → Rel x.U ρ h0 s a →
  ∃ o' o σ, k o' = some z ∧ iter (evQ x.C call fa n c) e0 m a = some o ∧ TORel x σ h0 o' o
end
section
variable {C : Ctx} {call : Zaa} {fa : FA}
theorem Zk4 {f : St → Option Out} {e0 : List (Nat × SV)} : ∀ (m : Nat) (st : St) (o : Out), iter f e0 m st = some o → iter f e0 (m + 1) st = some o
  | 0, st, o, h => by cases h
  | m + 1, st, o, h => by
    rw [iter] at h ⊢
    split at h
    · exact Zk4 m _ o h
    · exact h
theorem Zuc (n : Nat) : ∀ (c : Code) (st : St) (o : Out), evQ C call fa n c st = some o → evQ C call fa (n + 1) c st = some o := by
  intro c
  induction c with
  | seq p q ihp ihq =>
    intro st o h
    simp only [evQ] at h ⊢
    split at h
    · rename_i st' hs
      rw [ihp _ _ hs]
      exact ihq _ _ h
    · rename_i r hn
      rw [ihp _ _ h]
      split
      · rename_i st' hs
        cases hs
        exact absurd h (hn st')
      · rfl
  | cond c p q ihp ihq =>
    intro st o h
    simp only [evQ] at h ⊢
    split at h
    · rename_i t ht
      cases t with
      | true => exact ihp _ _ h
      | false => exact ihq _ _ h
    · cases h
  | block i c ih =>
    intro st o h
    simp only [evQ] at h ⊢
    cases hq : evQ C call fa n c st with
    | none => rw [hq] at h; cases h
    | some o1 =>
      rw [hq] at h
      rw [ih _ _ hq]
      exact h
  | loop c ih =>
    intro st o h
    simp only [evQ] at h ⊢
    exact Zk4 _ _ _ (Zil (fun st o hh => ih st o hh) _ _ _ h)
  | _ => intro st o h; exact h
end
section
variable {x : Cx} {h0 : Base}
theorem LawP.succ {call : Zaa} {fa : FA} {n m : Nat} {c : Code} {R : Type} {L : Ycp x.U R} (h : LawP x h0 call fa n m c L) : LawP x h0 call fa (n + 1) m c L := fun k s z ht hz e0 ρ a hc r => by
  obtain ⟨o', o, σ, h1, h2, h3⟩ := h k s z ht hz e0 ρ a hc r
  exact ⟨o', o, σ, h1, Zil (fun st o hh => Zuc n c st o hh) _ _ _ h2, h3⟩
theorem Law.succ {call : Zaa} {fa : FA} {n : Nat} {c : Code} {R : Type} {L : Ycp x.U R} (h : Law x h0 call fa n c L) : Law x h0 call fa (n + 1) c L := fun k s z ht hz ρ a r => by
  obtain ⟨o', o, σ, h1, h2, h3⟩ := h k s z ht hz ρ a r
  exact ⟨o', o, σ, h1, Zk4 _ _ _ (Zil (fun st o hh => Zuc n c st o hh) _ _ _ h2), h3⟩
end
end Go.Tev
namespace Go.Tev.S1
open Go.Abs Go.Proofs
abbrev T3a : Type := Val → Option Bool
abbrev T3b : Type := Val → Option ((List UInt8) × (List Val) × Bool)
abbrev T3c : Type := (List Val) → ((List ((List UInt8) × Bool)) × Unit) → Option ((Unit) × ((List ((List UInt8) × Bool)) × Unit))
abbrev T3d : Type := List ((List UInt8) × Bool)
abbrev T3e : Type := (List Val) × (List ((List UInt8) × (List Val))) → Option Int
abbrev T3f : Type := (List Val) → Option Int
abbrev T3g : Type := (List Val) × (List ((List UInt8) × (List Val))) → Option (List Val)
abbrev T3h : Type := (List Val) → Option Bool
abbrev T3i : Type := (List Cus) → Option Int
abbrev T3j : Type := (List Cus) → Option (List ((List UInt8) × (List Val)))
abbrev T3k : Type := (List Val) × (List ((List UInt8) × (List Val))) → Option ((List Val) × Int)
abbrev P3a (K : Zaa) (t : T3a) : Prop := Zaj U (Zab C K) 55 ⟨true, [.ty 51], [4], t⟩
abbrev P3b (K : Zaa) (t : T3b) : Prop := Zaj U (Zab C K) 56 ⟨true, [.ty 51], [9, 22, 4], t⟩
abbrev P3c (K : Zaa) (t : T3e) : Prop := Zaj U (Zab C K) 53 ⟨true, [.ty 22, .ty 60], [3], t⟩
abbrev P3d (K : Zaa) (t : T3f) : Prop := Zaj U (Zab C K) 44 ⟨true, [.ty 22], [3], t⟩
abbrev P3e (K : Zaa) (t : T3g) : Prop := Zaj U (Zab C K) 54 ⟨true, [.ty 22, .ty 60], [22], t⟩
abbrev P3f (K : Zaa) (t : T3h) : Prop := Zaj U (Zab C K) 14 ⟨true, [.ty 22], [4], t⟩
abbrev P3g (K : Zaa) (t : T3f) : Prop := Zaj U (Zab C K) 33 ⟨true, [.ty 22], [28], t⟩
abbrev P3h (K : Zaa) (t : T3i) : Prop := Zaj U (Zab C K) 22 ⟨true, [.ty 23], [28], t⟩
abbrev P3i (K : Zaa) (t : T3j) : Prop := Zaj U (Zab C K) 35 ⟨false, [.ty 23], [60], t⟩
abbrev P3j (K : Zaa) (t : T3k) : Prop := Zaj U (Zab C K) 34 ⟨true, [.ty 22, .ty 60], [22, 28], t⟩
def Zdx (qa : T3a) (qb : T3b) (qc : T3c) {R : Type} (n : Nat) (_ : Unit) (a9 : List Val) (a10 : Int) (kx0 : (List ((List UInt8) × Bool)) → Option R) (y11 : Int) (h1 : List ((List UInt8) × Bool)) (k : Int → (List ((List UInt8) × Bool)) → Option R) : Option R :=
  cond (decide (y11 < a10))
  (Option.bind (ZeS a9 y11) fun x2 =>
  Option.bind (qa (Val.mk x2.tok x2.l)) fun r3 =>
  Option.bind (cond r3 (qb (Val.mk x2.tok x2.l)) (some ([], [], false))) fun r4 =>
  Option.bind (some (cond (r4.1 != []) x2.tok.k x2.tok.k)) fun m5 =>
  Option.bind (some (cond (r4.1 != []) x2.tok.t x2.tok.t)) fun m6 =>
  Option.bind (some (cond (r4.1 != []) x2.tok.n x2.tok.n)) fun m7 =>
  Option.bind (some (cond (r4.1 != []) x2.tok.u x2.tok.u)) fun m8 =>
  Option.bind (some (cond (r4.1 != []) x2.tok.f x2.tok.f)) fun m9 =>
  Option.bind (some (cond (r4.1 != []) x2.l x2.l)) fun m10 =>
  Option.bind (some (cond (r4.1 != []) (Zgw BEq.beq r4.1 true h1) h1)) fun m11 =>
  Option.bind (some (cond r3 m5 x2.tok.k)) fun m12 =>
  Option.bind (some (cond r3 m6 x2.tok.t)) fun m13 =>
  Option.bind (some (cond r3 m7 x2.tok.n)) fun m14 =>
  Option.bind (some (cond r3 m8 x2.tok.u)) fun m15 =>
  Option.bind (some (cond r3 m9 x2.tok.f)) fun m16 =>
  Option.bind (some (cond r3 m10 x2.l)) fun m17 =>
  Option.bind (some (cond r3 m11 h1)) fun m18 =>
  Option.bind (qc m17 (m18, ())) fun w19 =>
  k (IntKind.i64.wrap (y11 + (1 : Int))) w19.2.1)
  (kx0 h1)
def Zfa (qa : T3a) (qb : T3b) (qc : T3c) (n : Nat) (p0 : List Val) (q1 : T3d) : Option ((Unit) × ((List ((List UInt8) × Bool)) × Unit)) :=
  Zgb (Zdx qa qb qc n () p0 (p0.length : Int) (fun z1 =>
  some ((), (z1, ())))) n (0 : Int) q1
abbrev Zmp (qa : T3a) (qb : T3b) (qc : T3c) : List (Nat × TCall X) := [(55, ⟨true, [.ty 51], [4], qa⟩), (56, ⟨true, [.ty 51], [9, 22, 4], qb⟩)]
noncomputable abbrev ZbJ (qa : T3a) (qb : T3b) (qc : T3c) : Cx := ⟨C, U, Zmp qa qb qc, [(36, ⟨[.ty 22, .ref (.map 9 4)], [], qc⟩)], fun _ => []⟩
theorem Zlc : okF (C.ann 36) Tryz.f36 2 = true := by kernel_rfl
abbrev vars_collect_L0_D : LD := ⟨1, [.mp 1 0, .val 9 22, .val 10 2], [.val 11 2, .hmap 9 4], [(0, [.hmap 9 4])], []⟩
abbrev Zcv (qa : T3a) (qb : T3b) (qc : T3c) (n : Nat) : LG U (PX X [] × PR' X (AR.refs [.ty 22, .ref (.map 9 4)])) vars_collect_L0_D := fun c kx kr y k => Zdx qa qb qc n c.1 c.2.1 c.2.2.1 (fun z0 => kx 0 (z0, ())) y.1 y.2.1 (fun z0 z1 => k (z0, z1, ()))
noncomputable abbrev Zcz (qa : T3a) (qb : T3b) (qc : T3c) (n : Nat) : ZeT (ZbJ qa qb qc) (PX X [] × PR' X (AR.refs [.ty 22, .ref (.map 9 4)])) := [(0, Zfk U vars_collect_L0_D (Zcv qa qb qc n) n)]
theorem Zjq (qa : T3a) (qb : T3b) (qc : T3c) (n : Nat) : ∀ c kx kr y k1, evL (ZbJ qa qb qc) (ann 36) (Zcz qa qb qc n) 0 (Zar (Zac Tryz.f36) 0) (ZeE U vars_collect_L0_D kx kr k1) (encS U vars_collect_L0_D.cap vars_collect_L0_D.din c y) = Zcv qa qb qc n c (fun i z => kx i c z) kr y (fun y2 => k1 c y2) := by
  intro c kx kr y k1
  kernel_rfl
theorem ZmC (qa : T3a) (qb : T3b) (qc : T3c) (n : Nat) : ∀ a cs, fnR (ZbJ qa qb qc) 36 Tryz.f36 [.ty 22, .ref (.map 9 4)] [] (Zcz qa qb qc n) a cs = Zfa qa qb qc n a cs.1 := by
  intro a cs
  kernel_rfl
theorem ZgR {K : Zaa} (qa : T3a) (qb : T3b) (qc : T3c) (h0 : P3a K qa) (h1 : P3b K qb) (g0 : Zd9 U (Zab C K) 36 ⟨[.ty 22, .ref (.map 9 4)], [], qc⟩) : CallsOk (ZbJ qa qb qc) (Zab C K) :=
  ⟨(Zag h0 (Zag h1 ZaA)), (Zv5 g0 Zaz)⟩
theorem Zh1 {K : Zaa} (qa : T3a) (qb : T3b) (qc : T3c) (h0 : P3a K qa) (h1 : P3b K qb) (g0 : Zd9 U (Zab C K) 36 ⟨[.ty 22, .ref (.map 9 4)], [], qc⟩) (n : Nat) (b0 : Base) (bn0 : b0.nr ≤ 1) : Law (ZbJ qa qb qc) b0 (Zab C K) (ann 36) n (Zar (Zac Tryz.f36) 0) (Zfk U vars_collect_L0_D (Zcv qa qb qc n) n) :=
  Zda (x := ZbJ qa qb qc) (id := 0) ok (ZgR qa qb qc h0 h1 g0) (sums := Zcz qa qb qc n) (Zau (show Zaq 0 (Zar (Zac Tryz.f36) 0) = [] by kernel_rfl)) vars_collect_L0_D bn0 (Zcv qa qb qc n) (Zjq qa qb qc n)
theorem Zit {K : Zaa} (hK : ∀ args h, K 36 args h = none) (qa : T3a) (qb : T3b) (qc : T3c) (h0 : P3a K qa) (h1 : P3b K qb) (g0 : Zd9 U (Zab C K) 36 ⟨[.ty 22, .ref (.map 9 4)], [], qc⟩) (t : PX X (AR.tys [.ty 22, .ref (.map 9 4)]) → PR' X (AR.refs [.ty 22, .ref (.map 9 4)]) → Option (PX X [] × PR' X (AR.refs [.ty 22, .ref (.map 9 4)]))) (h : ∀ a cs r, t a cs = some r → ∃ n, Zfa qa qb qc n a cs.1 = some r) : Zd9 U (Zab C K) 36 ⟨[.ty 22, .ref (.map 9 4)], [], t⟩ := by
  refine Zwo (x := ZbJ qa qb qc) (ak := [.ty 22, .ref (.map 9 4)]) (rts := []) ok (ZgR qa qb qc h0 h1 g0) hK Tryz.func36 Zlc fun a cs r hr => ?_
  obtain ⟨n, hn⟩ := h a cs r hr
  exact ⟨n, Zcz qa qb qc n, fun b0 bn0 => (Zbm (ids := [0]) (by kernel_rfl) (by decide) (fun i hi => by
    simp only [List.mem_cons, List.not_mem_nil, or_false] at hi
    rcases hi with rfl
    · exact Zbk (c2 := Zar (Zac Tryz.f36) 0) (by kernel_rfl) (by kernel_rfl) (Zh1 qa qb qc h0 h1 g0 _ b0 bn0)
    )), (ZmC qa qb qc n a cs).trans hn⟩
def Zdi (qa : T3a) (qd : T3e) (qb : T3b) (qe : T3f) {R : Type} (n : Nat) (a1 : List ((List UInt8) × (List Val))) (a14 : List Val) (a15 : Int) (kx0 : Int → Int → Option R) (kr : Int → Option R) (y4 : Int) (y5 : Int) (y16 : Int) (k : Int → Int → Int → Option R) : Option R :=
  cond (decide (y16 < a15))
  (Option.bind (ZeS a14 y16) fun x4 =>
  Option.bind (qa (Val.mk x4.tok x4.l)) fun r5 =>
  Option.bind (cond (!r5) (qd (x4.l, a1)) (some (0 : Int))) fun r6 =>
  Option.bind (cond (!(!r5)) (qb (Val.mk x4.tok x4.l)) (some ([], [], false))) fun r7 =>
  Option.bind (cond ((!(!r5)) && ((ZaV BEq.beq r7.1 a1).isSome)) (qe (Zku [] (ZaV BEq.beq r7.1 a1))) (some (0 : Int))) fun r8 =>
  Option.bind (cond (((!(!r5)) && (!((ZaV BEq.beq r7.1 a1).isSome))) && r7.2.2) (qd (r7.2.1, a1)) (some (0 : Int))) fun r9 =>
  Option.bind (some (cond r7.2.2 x4.tok.k x4.tok.k)) fun m10 =>
  Option.bind (some (cond r7.2.2 x4.tok.t x4.tok.t)) fun m11 =>
  Option.bind (some (cond r7.2.2 x4.tok.n x4.tok.n)) fun m12 =>
  Option.bind (some (cond r7.2.2 x4.tok.u x4.tok.u)) fun m13 =>
  Option.bind (some (cond r7.2.2 x4.tok.f x4.tok.f)) fun m14 =>
  Option.bind (some (cond r7.2.2 x4.l x4.l)) fun m15 =>
  Option.bind (some (cond r7.2.2 r9 (-1 : Int))) fun m16 =>
  Option.bind (some (cond ((ZaV BEq.beq r7.1 a1).isSome) x4.tok.k m10)) fun m17 =>
  Option.bind (some (cond ((ZaV BEq.beq r7.1 a1).isSome) x4.tok.t m11)) fun m18 =>
  Option.bind (some (cond ((ZaV BEq.beq r7.1 a1).isSome) x4.tok.n m12)) fun m19 =>
  Option.bind (some (cond ((ZaV BEq.beq r7.1 a1).isSome) x4.tok.u m13)) fun m20 =>
  Option.bind (some (cond ((ZaV BEq.beq r7.1 a1).isSome) x4.tok.f m14)) fun m21 =>
  Option.bind (some (cond ((ZaV BEq.beq r7.1 a1).isSome) x4.l m15)) fun m22 =>
  Option.bind (some (cond ((ZaV BEq.beq r7.1 a1).isSome) r8 m16)) fun m23 =>
  Option.bind (some (cond (!r5) (IntKind.i64.wrap (y5 + (IntKind.i64.wrap ((IntKind.i64.wrap ((1 : Int) + (x4.tok.t.length : Int))) + (x4.tok.u.length : Int))))) y5)) fun m24 =>
  Option.bind (some (cond (!r5) x4.tok.k m17)) fun m25 =>
  Option.bind (some (cond (!r5) x4.tok.t m18)) fun m26 =>
  Option.bind (some (cond (!r5) x4.tok.n m19)) fun m27 =>
  Option.bind (some (cond (!r5) x4.tok.u m20)) fun m28 =>
  Option.bind (some (cond (!r5) x4.tok.f m21)) fun m29 =>
  Option.bind (some (cond (!r5) x4.l m22)) fun m30 =>
  Option.bind (some (cond (!r5) r6 m23)) fun m31 =>
  cond (decide (m31 < (0 : Int)))
  (kr (-1 : Int))
  (k y4 (IntKind.i64.wrap (m24 + m31)) (IntKind.i64.wrap (y16 + (1 : Int)))))
  (kx0 y4 y5)
def ZeW (qa : T3a) (qd : T3e) (qb : T3b) (qe : T3f) (n : Nat) (p0 : List Val) (p1 : List ((List UInt8) × (List Val))) : Option Int :=
  ZoY (Zdi qa qd qb qe n p1 p0 (p0.length : Int) (fun z1 z2 =>
  some z2) (fun z3 =>
  some z3)) n (0 : Int) (0 : Int) (0 : Int)
abbrev Zmq (qa : T3a) (qd : T3e) (qb : T3b) (qe : T3f) : List (Nat × TCall X) := [(55, ⟨true, [.ty 51], [4], qa⟩), (53, ⟨true, [.ty 22, .ty 60], [3], qd⟩), (56, ⟨true, [.ty 51], [9, 22, 4], qb⟩), (44, ⟨true, [.ty 22], [3], qe⟩)]
noncomputable abbrev ZbI (qa : T3a) (qd : T3e) (qb : T3b) (qe : T3f) : Cx := ⟨C, U, Zmq qa qd qb qe, [], fun _ => []⟩
theorem ZlL : okF (C.ann 53) Tryz.f53 2 = true := by kernel_rfl
abbrev vars_measure_L0_D : LD := ⟨0, [.val 1 60, .val 14 22, .val 15 2], [.val 4 2, .val 5 2, .val 16 2], [(0, [.val 4 2, .val 5 2])], [.val 4 3]⟩
abbrev Zcy (qa : T3a) (qd : T3e) (qb : T3b) (qe : T3f) (n : Nat) : LG U (PX X [3]) vars_measure_L0_D := fun c kx kr y k => Zdi qa qd qb qe n c.1 c.2.1 c.2.2.1 (fun z0 z1 => kx 0 (z0, z1, ())) (fun z0 => kr (z0, ())) y.1 y.2.1 y.2.2.1 (fun z0 z1 z2 => k (z0, z1, z2, ()))
noncomputable abbrev Zcw (qa : T3a) (qd : T3e) (qb : T3b) (qe : T3f) (n : Nat) : ZeT (ZbI qa qd qb qe) (PX X [3]) := [(0, Zfk U vars_measure_L0_D (Zcy qa qd qb qe n) n)]
theorem ZjN (qa : T3a) (qd : T3e) (qb : T3b) (qe : T3f) (n : Nat) : ∀ c kx kr y k1, evL (ZbI qa qd qb qe) (ann 53) (Zcw qa qd qb qe n) 0 (Zar (Zac Tryz.f53) 0) (ZeE U vars_measure_L0_D kx kr k1) (encS U vars_measure_L0_D.cap vars_measure_L0_D.din c y) = Zcy qa qd qb qe n c (fun i z => kx i c z) kr y (fun y2 => k1 c y2) := by
  intro c kx kr y k1
  kernel_rfl
theorem ZmO (qa : T3a) (qd : T3e) (qb : T3b) (qe : T3f) (n : Nat) : ∀ a, fnL (ZbI qa qd qb qe) true 53 Tryz.f53 [.ty 22, .ty 60] [3] (Zcw qa qd qb qe n) a = ZeW qa qd qb qe n a.1 a.2 := by
  intro a
  kernel_rfl
theorem ZgM {K : Zaa} (qa : T3a) (qd : T3e) (qb : T3b) (qe : T3f) (h0 : P3a K qa) (h1 : P3c K qd) (h2 : P3b K qb) (h3 : P3d K qe) : CallsOk (ZbI qa qd qb qe) (Zab C K) :=
  ⟨(Zag h0 (Zag h1 (Zag h2 (Zag h3 ZaA)))), Zaz⟩
theorem Zh7 {K : Zaa} (qa : T3a) (qd : T3e) (qb : T3b) (qe : T3f) (h0 : P3a K qa) (h1 : P3c K qd) (h2 : P3b K qb) (h3 : P3d K qe) (n : Nat) (b0 : Base) (bn0 : b0.nr ≤ 0) : Law (ZbI qa qd qb qe) b0 (Zab C K) (ann 53) n (Zar (Zac Tryz.f53) 0) (Zfk U vars_measure_L0_D (Zcy qa qd qb qe n) n) :=
  Zda (x := ZbI qa qd qb qe) (id := 0) ok (ZgM qa qd qb qe h0 h1 h2 h3) (sums := Zcw qa qd qb qe n) (Zau (show Zaq 0 (Zar (Zac Tryz.f53) 0) = [] by kernel_rfl)) vars_measure_L0_D bn0 (Zcy qa qd qb qe n) (ZjN qa qd qb qe n)
theorem Zip {K : Zaa} (hK : ∀ args h, K 53 args h = none) (qa : T3a) (qd : T3e) (qb : T3b) (qe : T3f) (h0 : P3a K qa) (h1 : P3c K qd) (h2 : P3b K qb) (h3 : P3d K qe) (t : PX X (AK.tys [.ty 22, .ty 60]) → Option (PX X [3])) (h : ∀ a r, t a = some r → ∃ n, ZeW qa qd qb qe n a.1 a.2 = some r) : Zaj U (Zab C K) 53 ⟨true, [.ty 22, .ty 60], [3], t⟩ := by
  refine Zav (x := ZbI qa qd qb qe) (ak := [.ty 22, .ty 60]) (rts := [3]) (dir := true) ok (ZgM qa qd qb qe h0 h1 h2 h3) hK Tryz.func53 ZlL fun a r hr => ?_
  obtain ⟨n, hn⟩ := h a r hr
  exact ⟨n, Zcw qa qd qb qe n, (Zbm (ids := [0]) (by kernel_rfl) (by decide) (fun i hi => by
    simp only [List.mem_cons, List.not_mem_nil, or_false] at hi
    rcases hi with rfl
    · exact Zbk (c2 := Zar (Zac Tryz.f53) 0) (by kernel_rfl) (by kernel_rfl) (Zh7 qa qd qb qe h0 h1 h2 h3 _ _ (Nat.le_refl _))
    )), (ZmO qa qd qb qe n a).trans hn⟩
def Zf7 (qa : T3a) (qf : T3g) (qb : T3b) {R : Type} (n : Nat) (a1 : List ((List UInt8) × (List Val))) (a4 : List Val) (a13 : List Val) (a14 : Int) (kx0 : List Val → Option R) (y5 : List Val) (y15 : Int) (k : List Val → Int → Option R) : Option R :=
  cond (decide (y15 < a14))
  (Option.bind (ZeS a13 y15) fun x2 =>
  Option.bind (qa (Val.mk x2.tok x2.l)) fun r3 =>
  cond (!r3)
  (Option.bind (qf (x2.l, a1)) fun r4 =>
  Option.bind (Option.bind (room 80 (y5.length + [(Val.mk x2.tok r4)].length)) (fun _ => some (y5 ++ [(Val.mk x2.tok r4)]))) fun o5 =>
  k o5 (IntKind.i64.wrap (y15 + (1 : Int))))
  (Option.bind (qb (Val.mk x2.tok x2.l)) fun r6 =>
  Option.bind (some (cond ((ZaV BEq.beq r6.1 a1).isSome) y5 y5)) fun m7 =>
  Option.bind (some (cond ((ZaV BEq.beq r6.1 a1).isSome) x2.tok.k x2.tok.k)) fun m8 =>
  Option.bind (some (cond ((ZaV BEq.beq r6.1 a1).isSome) x2.tok.t x2.tok.t)) fun m9 =>
  Option.bind (some (cond ((ZaV BEq.beq r6.1 a1).isSome) x2.tok.n x2.tok.n)) fun m10 =>
  Option.bind (some (cond ((ZaV BEq.beq r6.1 a1).isSome) x2.tok.u x2.tok.u)) fun m11 =>
  Option.bind (some (cond ((ZaV BEq.beq r6.1 a1).isSome) x2.tok.f x2.tok.f)) fun m12 =>
  Option.bind (some (cond ((ZaV BEq.beq r6.1 a1).isSome) x2.l x2.l)) fun m13 =>
  Option.bind (some (cond ((ZaV BEq.beq r6.1 a1).isSome) (Zku [] (ZaV BEq.beq r6.1 a1)) r6.2.1)) fun m14 =>
  Option.bind (qf (m14, a1)) fun r15 =>
  Option.bind (Option.bind (room 80 (m7.length + r15.length)) (fun _ => some (m7 ++ r15))) fun o16 =>
  k o16 (IntKind.i64.wrap (y15 + (1 : Int)))))
  (kx0 y5)
def ZkT (qa : T3a) (qf : T3g) (qb : T3b) (n : Nat) (p0 : List Val) (p1 : List ((List UInt8) × (List Val))) : Option (List Val) :=
  Zgb (Zf7 qa qf qb n p1 [] p0 (p0.length : Int) (fun z1 =>
  some z1)) n [] (0 : Int)
abbrev ZuK (qa : T3a) (qf : T3g) (qb : T3b) : List (Nat × TCall X) := [(55, ⟨true, [.ty 51], [4], qa⟩), (54, ⟨true, [.ty 22, .ty 60], [22], qf⟩), (56, ⟨true, [.ty 51], [9, 22, 4], qb⟩)]
noncomputable abbrev ZdM (qa : T3a) (qf : T3g) (qb : T3b) : Cx := ⟨C, U, ZuK qa qf qb, [], fun _ => []⟩
theorem ZrD : okF (C.ann 54) Tryz.f54 2 = true := by kernel_rfl
abbrev vars_put_L0_D : LD := ⟨0, [.val 1 60, .val 4 22, .val 13 22, .val 14 2], [.own 5 51, .val 15 2], [(0, [.own 5 51])], []⟩
abbrev Zeo (qa : T3a) (qf : T3g) (qb : T3b) (n : Nat) : LG U (PX X [22]) vars_put_L0_D := fun c kx kr y k => Zf7 qa qf qb n c.1 c.2.1 c.2.2.1 c.2.2.2.1 (fun z0 => kx 0 (z0, ())) y.1 y.2.1 (fun z0 z1 => k (z0, z1, ()))
noncomputable abbrev Zej (qa : T3a) (qf : T3g) (qb : T3b) (n : Nat) : ZeT (ZdM qa qf qb) (PX X [22]) := [(0, Zfk U vars_put_L0_D (Zeo qa qf qb n) n)]
theorem Zo7 (qa : T3a) (qf : T3g) (qb : T3b) (n : Nat) : ∀ c kx kr y k1, evL (ZdM qa qf qb) (ann 54) (Zej qa qf qb n) 0 (Zar (Zac Tryz.f54) 0) (ZeE U vars_put_L0_D kx kr k1) (encS U vars_put_L0_D.cap vars_put_L0_D.din c y) = Zeo qa qf qb n c (fun i z => kx i c z) kr y (fun y2 => k1 c y2) := by
  intro c kx kr y k1
  kernel_rfl
theorem ZuH (qa : T3a) (qf : T3g) (qb : T3b) (n : Nat) : ∀ a, fnL (ZdM qa qf qb) true 54 Tryz.f54 [.ty 22, .ty 60] [22] (Zej qa qf qb n) a = ZkT qa qf qb n a.1 a.2 := by
  intro a
  kernel_rfl
theorem Zlm {K : Zaa} (qa : T3a) (qf : T3g) (qb : T3b) (h0 : P3a K qa) (h1 : P3e K qf) (h2 : P3b K qb) : CallsOk (ZdM qa qf qb) (Zab C K) :=
  ⟨(Zag h0 (Zag h1 (Zag h2 ZaA))), Zaz⟩
theorem Zly {K : Zaa} (qa : T3a) (qf : T3g) (qb : T3b) (h0 : P3a K qa) (h1 : P3e K qf) (h2 : P3b K qb) (n : Nat) (b0 : Base) (bn0 : b0.nr ≤ 0) : Law (ZdM qa qf qb) b0 (Zab C K) (ann 54) n (Zar (Zac Tryz.f54) 0) (Zfk U vars_put_L0_D (Zeo qa qf qb n) n) :=
  Zda (x := ZdM qa qf qb) (id := 0) ok (Zlm qa qf qb h0 h1 h2) (sums := Zej qa qf qb n) (Zau (show Zaq 0 (Zar (Zac Tryz.f54) 0) = [] by kernel_rfl)) vars_put_L0_D bn0 (Zeo qa qf qb n) (Zo7 qa qf qb n)
theorem ZmJ {K : Zaa} (hK : ∀ args h, K 54 args h = none) (qa : T3a) (qf : T3g) (qb : T3b) (h0 : P3a K qa) (h1 : P3e K qf) (h2 : P3b K qb) (t : PX X (AK.tys [.ty 22, .ty 60]) → Option (PX X [22])) (h : ∀ a r, t a = some r → ∃ n, ZkT qa qf qb n a.1 a.2 = some r) : Zaj U (Zab C K) 54 ⟨true, [.ty 22, .ty 60], [22], t⟩ := by
  refine Zav (x := ZdM qa qf qb) (ak := [.ty 22, .ty 60]) (rts := [22]) (dir := true) ok (Zlm qa qf qb h0 h1 h2) hK Tryz.func54 ZrD fun a r hr => ?_
  obtain ⟨n, hn⟩ := h a r hr
  exact ⟨n, Zej qa qf qb n, (Zbm (ids := [0]) (by kernel_rfl) (by decide) (fun i hi => by
    simp only [List.mem_cons, List.not_mem_nil, or_false] at hi
    rcases hi with rfl
    · exact Zbk (c2 := Zar (Zac Tryz.f54) 0) (by kernel_rfl) (by kernel_rfl) (Zly qa qf qb h0 h1 h2 _ _ (Nat.le_refl _))
    )), (ZuH qa qf qb n a).trans hn⟩
def Zfe (qd : T3e) (qg : T3h) (qf : T3g) (qh : T3f) (n : Nat) (p0 : List Val) (p1 : List ((List UInt8) × (List Val))) : Option ((List Val) × Int) :=
  Option.bind (qd (p0, p1)) fun r1 =>
  cond (decide (r1 < (0 : Int)))
  (some ([], (6 : Int)))
  (Option.bind (cond (decide (r1 > (2000 : Int))) (qg p0) (some false)) fun r2 =>
  Option.bind (some (cond (decide (r1 > (2000 : Int))) r2 false)) fun m3 =>
  cond m3
  (some ([], (28 : Int)))
  (Option.bind (qf (p0, p1)) fun r4 =>
  Option.bind (qh r4) fun r5 =>
  cond (r5 != (0 : Int))
  (some ([], r5))
  (some (r4, (0 : Int)))))
abbrev ZmQ (qd : T3e) (qg : T3h) (qf : T3g) (qh : T3f) : List (Nat × TCall X) := [(53, ⟨true, [.ty 22, .ty 60], [3], qd⟩), (14, ⟨true, [.ty 22], [4], qg⟩), (54, ⟨true, [.ty 22, .ty 60], [22], qf⟩), (33, ⟨true, [.ty 22], [28], qh⟩)]
noncomputable abbrev ZdV (qd : T3e) (qg : T3h) (qf : T3g) (qh : T3f) : Cx := ⟨C, U, ZmQ qd qg qf qh, [], fun _ => []⟩
theorem ZlH : okF (C.ann 34) Tryz.f34 2 = true := by kernel_rfl
noncomputable abbrev Zft (qd : T3e) (qg : T3h) (qf : T3g) (qh : T3f) (n : Nat) : ZeT (ZdV qd qg qf qh) (PX X [22, 28]) := []
theorem ZmN (qd : T3e) (qg : T3h) (qf : T3g) (qh : T3f) (n : Nat) : ∀ a, fnL (ZdV qd qg qf qh) true 34 Tryz.f34 [.ty 22, .ty 60] [22, 28] (Zft qd qg qf qh n) a = Zfe qd qg qf qh n a.1 a.2 := by
  intro a
  kernel_rfl
theorem ZlQ {K : Zaa} (qd : T3e) (qg : T3h) (qf : T3g) (qh : T3f) (h0 : P3c K qd) (h1 : P3f K qg) (h2 : P3e K qf) (h3 : P3g K qh) : CallsOk (ZdV qd qg qf qh) (Zab C K) :=
  ⟨(Zag h0 (Zag h1 (Zag h2 (Zag h3 ZaA)))), Zaz⟩
theorem Zix {K : Zaa} (hK : ∀ args h, K 34 args h = none) (qd : T3e) (qg : T3h) (qf : T3g) (qh : T3f) (h0 : P3c K qd) (h1 : P3f K qg) (h2 : P3e K qf) (h3 : P3g K qh) (t : PX X (AK.tys [.ty 22, .ty 60]) → Option (PX X [22, 28])) (h : ∀ a r, t a = some r → ∃ n, Zfe qd qg qf qh n a.1 a.2 = some r) : Zaj U (Zab C K) 34 ⟨true, [.ty 22, .ty 60], [22, 28], t⟩ := by
  refine Zav (x := ZdV qd qg qf qh) (ak := [.ty 22, .ty 60]) (rts := [22, 28]) (dir := true) ok (ZlQ qd qg qf qh h0 h1 h2 h3) hK Tryz.func34 ZlH fun a r hr => ?_
  obtain ⟨n, hn⟩ := h a r hr
  exact ⟨n, Zft qd qg qf qh n, (Zau (show Zaq 0 (Zac Tryz.f34) = [] by kernel_rfl)), (ZmN qd qg qf qh n a).trans hn⟩
def Zes {R : Type} (n : Nat) (a0 : List Cus) (a1 : List UInt8) (kx0 : Int → Option R) (kr : Int → Option R) (y4 : Int) (y5 : Int) (k : Int → Int → Option R) : Option R :=
  cond (decide (y5 < (a0.length : Int)))
  (Option.bind (ZeS a0 y5) fun x3 =>
  cond (x3.name == a1)
  (kr y5)
  (k y4 (IntKind.i64.wrap (y5 + (1 : Int)))))
  (kx0 y4)
def Zhc (n : Nat) (p0 : List Cus) (p1 : List UInt8) : Option Int :=
  Zgb (Zes n p0 p1 (fun z1 =>
  some (-1 : Int)) (fun z2 =>
  some z2)) n (0 : Int) (0 : Int)
abbrev Zql : List (Nat × TCall X) := []
noncomputable abbrev Zch : Cx := ⟨C, U, Zql , [], fun _ => []⟩
theorem Zoy : okF (C.ann 17) Tryz.f17 2 = true := by kernel_rfl
abbrev ref30_Find_L0_D : LD := ⟨0, [.val 0 23, .val 1 9], [.val 4 2, .val 5 2], [(0, [.val 4 2])], [.val 4 3]⟩
abbrev Zdy (n : Nat) : LG U (PX X [3]) ref30_Find_L0_D := fun c kx kr y k => Zes n c.1 c.2.1 (fun z0 => kx 0 (z0, ())) (fun z0 => kr (z0, ())) y.1 y.2.1 (fun z0 z1 => k (z0, z1, ()))
noncomputable abbrev Zdr (n : Nat) : ZeT (Zch ) (PX X [3]) := [(0, Zfk U ref30_Find_L0_D (Zdy n) n)]
theorem ZlA (n : Nat) : ∀ c kx kr y k1, evL (Zch ) (ann 17) (Zdr n) 0 (Zar (Zac Tryz.f17) 0) (ZeE U ref30_Find_L0_D kx kr k1) (encS U ref30_Find_L0_D.cap ref30_Find_L0_D.din c y) = Zdy n c (fun i z => kx i c z) kr y (fun y2 => k1 c y2) := by
  intro c kx kr y k1
  kernel_rfl
theorem ZpT (n : Nat) : ∀ a, fnL (Zch ) true 17 Tryz.f17 [.ty 23, .ty 9] [3] (Zdr n) a = Zhc n a.1 a.2 := by
  intro a
  kernel_rfl
theorem Zio {K : Zaa} : CallsOk (Zch ) (Zab C K) :=
  ⟨ZaA, Zaz⟩
theorem Zjo {K : Zaa} (n : Nat) (b0 : Base) (bn0 : b0.nr ≤ 0) : Law (Zch ) b0 (Zab C K) (ann 17) n (Zar (Zac Tryz.f17) 0) (Zfk U ref30_Find_L0_D (Zdy n) n) :=
  Zda (x := Zch ) (id := 0) ok (Zio ) (sums := Zdr n) (Zau (show Zaq 0 (Zar (Zac Tryz.f17) 0) = [] by kernel_rfl)) ref30_Find_L0_D bn0 (Zdy n) (ZlA n)
theorem ZkG {K : Zaa} (hK : ∀ args h, K 17 args h = none) (t : PX X (AK.tys [.ty 23, .ty 9]) → Option (PX X [3])) (h : ∀ a r, t a = some r → ∃ n, Zhc n a.1 a.2 = some r) : Zaj U (Zab C K) 17 ⟨true, [.ty 23, .ty 9], [3], t⟩ := by
  refine Zav (x := Zch ) (ak := [.ty 23, .ty 9]) (rts := [3]) (dir := true) ok (Zio ) hK Tryz.func17 Zoy fun a r hr => ?_
  obtain ⟨n, hn⟩ := h a r hr
  exact ⟨n, Zdr n, (Zbm (ids := [0]) (by kernel_rfl) (by decide) (fun i hi => by
    simp only [List.mem_cons, List.not_mem_nil, or_false] at hi
    rcases hi with rfl
    · exact Zbk (c2 := Zar (Zac Tryz.f17) 0) (by kernel_rfl) (by kernel_rfl) (Zjo _ _ (Nat.le_refl _))
    )), (ZpT n a).trans hn⟩
def Zei {R : Type} (n : Nat) (_ : Unit) (a7 : List Cus) (a8 : Int) (kx0 : (List ((List UInt8) × (List Val))) → Option R) (y9 : Int) (h1 : List ((List UInt8) × (List Val))) (k : Int → (List ((List UInt8) × (List Val))) → Option R) : Option R :=
  cond (decide (y9 < a8))
  (Option.bind (ZeS a7 y9) fun x2 =>
  k (IntKind.i64.wrap (y9 + (1 : Int))) (Zgw BEq.beq x2.name x2.val h1))
  (kx0 h1)
def ZgZ (n : Nat) (p0 : List Cus) : Option (List ((List UInt8) × (List Val))) :=
  Zgb (Zei n () p0 (p0.length : Int) (fun z1 =>
  some z1)) n (0 : Int) []
abbrev Zpn : List (Nat × TCall X) := []
noncomputable abbrev Zcp : Cx := ⟨C, U, Zpn , [], fun _ => []⟩
theorem ZoI : okF (C.ann 35) Tryz.f35 1 = true := by kernel_rfl
abbrev vars_table_L0_D : LD := ⟨0, [.mp 3 0, .val 7 23, .val 8 2], [.val 9 2, .hmap 9 22], [(0, [.hmap 9 22])], []⟩
abbrev Zdt (n : Nat) : LG U (PX X [60]) vars_table_L0_D := fun c kx kr y k => Zei n c.1 c.2.1 c.2.2.1 (fun z0 => kx 0 (z0, ())) y.1 y.2.1 (fun z0 z1 => k (z0, z1, ()))
noncomputable abbrev Zc8 (n : Nat) : ZeT (Zcp ) (PX X [60]) := [(0, Zfk U vars_table_L0_D (Zdt n) n)]
theorem Zmb (n : Nat) : ∀ c kx kr y k1, evL (Zcp ) (ann 35) (Zc8 n) 0 (Zar (Zac Tryz.f35) 0) (ZeE U vars_table_L0_D kx kr k1) (encS U vars_table_L0_D.cap vars_table_L0_D.din c y) = Zdt n c (fun i z => kx i c z) kr y (fun y2 => k1 c y2) := by
  intro c kx kr y k1
  kernel_rfl
theorem Zp0 (n : Nat) : ∀ a, fnL (Zcp ) false 35 Tryz.f35 [.ty 23] [60] (Zc8 n) a = ZgZ n a := by
  intro a
  kernel_rfl
theorem Zi5 {K : Zaa} : CallsOk (Zcp ) (Zab C K) :=
  ⟨ZaA, Zaz⟩
theorem Zjj {K : Zaa} (n : Nat) (b0 : Base) (bn0 : b0.nr ≤ 0) : Law (Zcp ) b0 (Zab C K) (ann 35) n (Zar (Zac Tryz.f35) 0) (Zfk U vars_table_L0_D (Zdt n) n) :=
  Zda (x := Zcp ) (id := 0) ok (Zi5 ) (sums := Zc8 n) (Zau (show Zaq 0 (Zar (Zac Tryz.f35) 0) = [] by kernel_rfl)) vars_table_L0_D bn0 (Zdt n) (Zmb n)
theorem Zks {K : Zaa} (hK : ∀ args h, K 35 args h = none) (t : PX X (AK.tys [.ty 23]) → Option (PX X [60])) (h : ∀ a r, t a = some r → ∃ n, ZgZ n a = some r) : Zaj U (Zab C K) 35 ⟨false, [.ty 23], [60], t⟩ := by
  refine Zav (x := Zcp ) (ak := [.ty 23]) (rts := [60]) (dir := false) ok (Zi5 ) hK Tryz.func35 ZoI fun a r hr => ?_
  obtain ⟨n, hn⟩ := h a r hr
  exact ⟨n, Zc8 n, (Zbm (ids := [0]) (by kernel_rfl) (by decide) (fun i hi => by
    simp only [List.mem_cons, List.not_mem_nil, or_false] at hi
    rcases hi with rfl
    · exact Zbk (c2 := Zar (Zac Tryz.f35) 0) (by kernel_rfl) (by kernel_rfl) (Zjj _ _ (Nat.le_refl _))
    )), (Zp0 n a).trans hn⟩
def Ze8 (qh : T3f) (qi : T3i) (qj : T3j) (qk : T3k) (n : Nat) (p0 : List Val) (p1 : List Cus) : Option ((List Val) × Int) :=
  Option.bind (qh p0) fun r1 =>
  cond (r1 != (0 : Int))
  (some ([], r1))
  (Option.bind (qi p1) fun r2 =>
  cond (r2 != (0 : Int))
  (some ([], r2))
  (Option.bind (qj p1) fun r3 =>
  Option.bind (qk (p0, r3)) fun r4 =>
  some (r4.1, r4.2)))
abbrev ZmI (qh : T3f) (qi : T3i) (qj : T3j) (qk : T3k) : List (Nat × TCall X) := [(33, ⟨true, [.ty 22], [28], qh⟩), (22, ⟨true, [.ty 23], [28], qi⟩), (35, ⟨false, [.ty 23], [60], qj⟩), (34, ⟨true, [.ty 22, .ty 60], [22, 28], qk⟩)]
noncomputable abbrev ZdW (qh : T3f) (qi : T3i) (qj : T3j) (qk : T3k) : Cx := ⟨C, U, ZmI qh qi qj qk, [], fun _ => []⟩
theorem Zk9 : okF (C.ann 12) Tryz.f12 2 = true := by kernel_rfl
noncomputable abbrev ZfD (qh : T3f) (qi : T3i) (qj : T3j) (qk : T3k) (n : Nat) : ZeT (ZdW qh qi qj qk) (PX X [22, 28]) := []
theorem ZmM (qh : T3f) (qi : T3i) (qj : T3j) (qk : T3k) (n : Nat) : ∀ a, fnL (ZdW qh qi qj qk) true 12 Tryz.f12 [.ty 22, .ty 23] [22, 28] (ZfD qh qi qj qk n) a = Ze8 qh qi qj qk n a.1 a.2 := by
  intro a
  kernel_rfl
theorem ZlY {K : Zaa} (qh : T3f) (qi : T3i) (qj : T3j) (qk : T3k) (h0 : P3g K qh) (h1 : P3h K qi) (h2 : P3i K qj) (h3 : P3j K qk) : CallsOk (ZdW qh qi qj qk) (Zab C K) :=
  ⟨(Zag h0 (Zag h1 (Zag h2 (Zag h3 ZaA)))), Zaz⟩
theorem ZiB {K : Zaa} (hK : ∀ args h, K 12 args h = none) (qh : T3f) (qi : T3i) (qj : T3j) (qk : T3k) (h0 : P3g K qh) (h1 : P3h K qi) (h2 : P3i K qj) (h3 : P3j K qk) (t : PX X (AK.tys [.ty 22, .ty 23]) → Option (PX X [22, 28])) (h : ∀ a r, t a = some r → ∃ n, Ze8 qh qi qj qk n a.1 a.2 = some r) : Zaj U (Zab C K) 12 ⟨true, [.ty 22, .ty 23], [22, 28], t⟩ := by
  refine Zav (x := ZdW qh qi qj qk) (ak := [.ty 22, .ty 23]) (rts := [22, 28]) (dir := true) ok (ZlY qh qi qj qk h0 h1 h2 h3) hK Tryz.func12 Zk9 fun a r hr => ?_
  obtain ⟨n, hn⟩ := h a r hr
  exact ⟨n, ZfD qh qi qj qk n, (Zau (show Zaq 0 (Zac Tryz.f12) = [] by kernel_rfl)), (ZmM qh qi qj qk n a).trans hn⟩
end Go.Tev.S1
namespace Go.Tev.S1
open Go.Abs Go.Proofs
def ZwS (a : List Cus × List UInt8) : Option Int := if a.1.length ≤ B then some (ZcG a.1 a.2 0) else none
theorem Zuh {c : List Cus} {n : List UInt8} (h : c.length ≤ B) : ZwS (c, n) = some (ZcG c n 0) := if_pos h
theorem ZwM (c : List Cus) (n : List UInt8) (h : c.length ≤ B) : Zhc (c.length + 1) c n = some (ZcG c n 0) := by
  have hB : B = 2 ^ 36 := rfl
  unfold Zhc
  refine (Zc5 c (fun (_ : Nat) => (0 : Int)) (fun b v => if v.name == n then .inr (some (b : Int)) else .inl (b + 1)) (fun b => some (-1 : Int)) (fun i b => b = i) ?_ ?_ ?_ 0 rfl _ (Nat.lt_succ_self _)).trans ?_
  · intro i b v k' hv hlt hb
    subst hb
    simp (disch := omega) only [Zes, Zbg hv, Option.bind_some, dlt hlt, cond_true, Zdw]
    cases (v.name == n) <;> rfl
  · intro i b v b' hv hb hs
    subst hb
    cases e : (v.name == n) <;> rw [e] at hs <;> cases hs
    rfl
  · intro b k' hb
    simp only [Zes, Zpk, cond_false]
  · clear h
    have : ∀ (l : List Cus) (b : Nat), Zmm (fun (b : Nat) (v : Cus) => if v.name == n then .inr (some (b : Int)) else .inl (b + 1)) (fun _ => some (-1 : Int)) l b = some (ZcG l n (b : Int)) := by
      intro l
      induction l with
      | nil => intro b; rfl
      | cons v l ih =>
        intro b
        simp only [Zmm, ZcG]
        cases (v.name == n) with
        | true => rfl
        | false => exact ih (b + 1)
    exact this c 0
theorem Ya5 {K : Zaa} (hK : Zcu K) : Zaj U (Zab C K) 17 ⟨true, [.ty 23, .ty 9], [3], ZwS⟩ :=
  ZkG (kf hK 17 (by decide)) _ fun a r h => by
    unfold ZwS at h
    split at h
    · rename_i h3; cases h; exact ⟨_, ZwM a.1 a.2 h3⟩
    · cases h
def Zuv (lk : Lk) (l : List Val) : Int := match ZeA lk l with
  | some m => m
  | none => -1
theorem Yag {R : Type} (lk : Lk) (z : Option R) (kx : List Val → Option R) : ∀ (l b : List Val), (ZeA lk b).isSome = true →
    Zmm (fun b v => if (ZeA lk (b ++ [v])).isSome = true then .inl (b ++ [v]) else .inr z) kx l b = if (ZeA lk (b ++ l)).isSome = true then kx (b ++ l) else z := by
  intro l
  induction l with
  | nil => intro b hb; simp only [Zmm, List.append_nil, if_pos hb]
  | cons v l ih =>
    intro b hb
    simp only [Zmm]
    by_cases h : (ZeA lk (b ++ [v])).isSome = true
    · rw [if_pos h]
      simp only
      rw [ih _ h, List.append_assoc]; rfl
    · rw [if_neg h]
      have : ¬ (ZeA lk (b ++ v :: l)).isSome = true := by
        intro h2
        apply h
        have e : b ++ v :: l = (b ++ [v]) ++ l := by simp
        rw [e, ZhZ] at h2
        cases hh : ZeA lk (b ++ [v]) with
        | none => rw [hh] at h2; simp [ZkO] at h2
        | some x => rfl
      rw [if_neg this]
def okM (a : List Val × List (List UInt8 × List Val)) : Prop := Zak a.1 ≤ B ∧ ∀ p ∈ a.2, Zak p.2 ≤ V
instance (a) : Decidable (okM a) := inferInstanceAs (Decidable (_ ∧ _))
def YaH (a : List Val × List (List UInt8 × List Val)) : Option Int := if okM a then some (Zuv (lkM a.2) a.1) else none
theorem ZrO {l : List Val} {m : List (List UInt8 × List Val)} (h : Zak l ≤ B) (h2 : ∀ p ∈ m, Zak p.2 ≤ V) : YaH (l, m) = some (Zuv (lkM m) l) := if_pos ⟨h, h2⟩
theorem Zk7 {lk : Lk} {l : List Val} {m : Nat} (h : Zak l ≤ B) (h2 : ∀ n x, lk n = some x → Zak x ≤ V) (hm : ZeA lk l = some m) : m ≤ 2 ^ 60 := by
  have h3 := YdB lk V (by decide) h2 l m hm
  have h4 : Zak l * V ≤ B * V := Nat.mul_le_mul_right _ h
  have h5 : B * V = 2 ^ 60 := by decide
  omega
theorem Zh9 {lk : Lk} {l : List Val} {m : Nat} (h : ZeA lk l = some m) : Zuv lk l = (m : Int) := by unfold Zuv; rw [h]
theorem Zii {lk : Lk} {l : List Val} (h : ZeA lk l = none) : Zuv lk l = -1 := by unfold Zuv; rw [h]
theorem Zsc : decide ((-1 : Int) < 0) = true := rfl
theorem Zrn (m : List (List UInt8 × List Val)) (l : List Val) (k : Nat) (h1 : Zak l < k + 1) (h2 : Zak l ≤ B) (hm : ∀ p ∈ m, Zak p.2 ≤ V) :
    ZeW (fun v => some v.ref) (below (fun a : List Val × List (List UInt8 × List Val) => Zak a.1) k YaH) Zm8 ZmY (l.length + 1) l m = some (Zuv (lkM m) l) := by
  have hB : B = 2 ^ 36 := rfl
  have hV : V = 2 ^ 24 := rfl
  have hlk : ∀ n x, lkM m n = some x → Zak x ≤ V := by
    intro n x h
    obtain ⟨p, hp, rfl⟩ := ZvF h
    exact hm p hp
  unfold ZeW
  have e0 : Zuv (lkM m) [] = 0 := by unfold Zuv; rw [Zc9]; rfl
  refine ((congrArg (fun z => ZoY _ _ (0 : Int) z (0 : Int)) e0.symm).trans (Zhv l (fun (_ : List Val) => (0 : Int)) (fun b => Zuv (lkM m) b) (fun b v => if (ZeA (lkM m) (b ++ [v])).isSome = true then .inl (b ++ [v]) else .inr (some (-1 : Int))) (fun b => some (Zuv (lkM m) b)) (fun i b => b = l.take i ∧ (ZeA (lkM m) b).isSome = true) ?_ ?_ ?_ [] ⟨rfl, by rw [Zc9]; rfl⟩ _ (Nat.lt_succ_self _))).trans ?_
  · intro i b v k' hv hlt hb
    obtain ⟨hb, hbs⟩ := hb
    obtain ⟨nb, hnb⟩ := Option.isSome_iff_exists.1 hbs
    have hmem := List.mem_of_getElem? hv
    have hs := ZeR hmem
    have hm1 := Zk0 hmem
    have hl := ZeH l
    have he := v.tot_eq
    have hp := Ziy v.l
    have hble : Zak b ≤ B := by rw [hb]; exact Nat.le_trans (ZeL l i) h2
    have hbb := Zk7 hble hlk hnb
    have ib := Zh9 hnb
    have hbel : below (fun a : List Val × List (List UInt8 × List Val) => Zak a.1) k YaH (v.l, m) = some (Zuv (lkM m) v.l) := (ZdU (sz := fun a : List Val × List (List UInt8 × List Val) => Zak a.1) (show Zak v.l < k by omega)).trans (ZrO (by omega) hm)
    have hbel2 : below (fun a : List Val × List (List UInt8 × List Val) => Zak a.1) k YaH ((Zaw v.l).2.1, m) = some (Zuv (lkM m) (Zaw v.l).2.1) := (ZdU (sz := fun a : List Val × List (List UInt8 × List Val) => Zak a.1) (show Zak (Zaw v.l).2.1 < k by omega)).trans (ZrO (by omega) hm)
    have hi : IntKind.i64.wrap ((i : Int) + 1) = ((i + 1 : Nat) : Int) := Za7 (by omega)
    simp only [Zdi, Zbg hv, Option.bind_some, dlt hlt, cond_true, Val.eta, hi, Bool.cond_self]
    have hsn := ZxB (lkM m) b v
    rw [hnb] at hsn
    rw [ib]
    cases e1 : v.ref
    · rw [ZoC e1] at hsn
      simp only [Bool.not_false, Bool.not_true, cond_true, cond_false, Option.bind_some, hbel, Bool.false_and]
      cases e2 : ZeA (lkM m) v.l with
      | none =>
        rw [e2] at hsn
        rw [Zii e2, hsn]
        simp only [Zsc, cond_true, ZkO, Option.isSome_none, Bool.false_eq_true, if_false]
      | some n =>
        have hnn := Zk7 (show Zak v.l ≤ B by omega) hlk e2
        rw [e2] at hsn
        have e3 : decide ((n : Int) < 0) = false := by simp
        rw [Zh9 e2, e3, if_pos (by rw [hsn]; rfl)]
        simp only [cond_false]
        rw [Zh9 hsn]
        simp (disch := omega) only [Zdw]
        have hx : (nb : Int) + (1 + (v.tok.t.length : Int) + (v.tok.u.length : Int)) + (n : Int) = ((nb + ((1 + v.tok.t.length + v.tok.u.length) + n) : Nat) : Int) := by omega
        rw [hx]
    · simp only [Bool.not_false, Bool.not_true, cond_true, cond_false, Option.bind_some, Zmc (show v.tot ≤ B by omega), Bool.true_and]
      cases e2 : ZaV BEq.beq (Zaw v.l).1 m with
      | some x =>
        have e2' : lkM m (Zaw v.l).1 = some x := e2
        have hxl := hlk _ _ e2'
        rw [Zs0 e1 e2'] at hsn
        simp only [Zku, Option.isSome_some, cond_true, Bool.not_true, Bool.false_and, cond_false, ZiG (show Zak x ≤ B by omega), Option.bind_some]
        have e3 : decide ((Zak x : Int) < 0) = false := by simp
        rw [e3, if_pos (by rw [hsn]; rfl)]
        simp only [cond_false]
        rw [Zh9 hsn, Zdw (by omega) (by omega)]
        rfl
      | none =>
        have e2' : lkM m (Zaw v.l).1 = none := e2
        simp only [Option.isSome_none, cond_false, Bool.not_false, Bool.true_and, Option.bind_some]
        cases e3 : (Zaw v.l).2.2
        · rw [Ztj e1 e2' e3] at hsn
          rw [hsn]
          simp only [Zsc, cond_true, cond_false, Option.bind_some, ZkO, Option.isSome_none, Bool.false_eq_true, if_false]
        · rw [Ztk e1 e2' e3] at hsn
          simp only [cond_true, hbel2, Option.bind_some]
          cases e4 : ZeA (lkM m) (Zaw v.l).2.1 with
          | none =>
            rw [e4] at hsn
            rw [Zii e4, hsn]
            simp only [Zsc, cond_true, ZkO, Option.isSome_none, Bool.false_eq_true, if_false]
          | some n =>
            rw [e4] at hsn
            have hnn := Zk7 (show Zak (Zaw v.l).2.1 ≤ B by omega) hlk e4
            have e5 : decide ((n : Int) < 0) = false := by simp
            rw [Zh9 e4, e5, if_pos (by rw [hsn]; rfl)]
            simp only [cond_false]
            rw [Zh9 hsn, Zdw (by omega) (by omega)]
            rfl
  · intro i b v b' hv hb hs
    split at hs
    · rename_i h; cases hs; exact ⟨by rw [ZbG hv, hb.1], h⟩
    · cases hs
  · intro b k' hb
    simp only [Zdi, Zpk, cond_false]
  · rw [Yag _ _ _ _ _ (by rw [Zc9]; rfl)]
    simp only [List.nil_append]
    cases e : ZeA (lkM m) l with
    | none => rw [Zii e]; rfl
    | some n => rfl
theorem Zxh {K : Zaa} (hK : Zcu K) : Zaj U (Zab C K) 53 ⟨true, [.ty 22, .ty 60], [3], YaH⟩ :=
  Zd8 (U := U) (ak := [.ty 22, .ty 60]) (rts := [3]) (fun a : List Val × List (List UInt8 × List Val) => Zak a.1) YaH fun k ih => Zip (kf hK 53 (by decide)) _ _ _ _ (Zsm hK) ih (Zsf hK) (Zs4 hK) _ fun a r h => by
    obtain ⟨h1, h2⟩ := Zc6 h
    unfold YaH at h2
    split at h2
    · rename_i h3; cases h2; exact ⟨_, Zrn a.2 a.1 k h1 h3.1 h3.2⟩
    · cases h2
end Go.Tev.S1
namespace Go.Tev
open Go.Abs
theorem YbI {lk : Lk} {l : List Val} {n : Nat} (h : ZeA lk l = some n) {v : Val} (hv : v ∈ l) : ∃ n', Zsn lk v = some n' ∧ n' ≤ n := by
  induction l generalizing n with
  | nil => cases hv
  | cons w l ih =>
    rw [ZcH] at h
    obtain ⟨x, y, hx, hy, rfl⟩ := ZeI h
    rcases List.mem_cons.1 hv with rfl | hv
    · exact ⟨x, hx, by omega⟩
    · obtain ⟨n', h1, h2⟩ := ih hy hv
      exact ⟨n', h1, by omega⟩
theorem Yby {lk : Lk} {l : List Val} {n : Nat} (h : ZeA lk l = some n) (i : Nat) : (Zeg lk (l.take i)).length ≤ n := by
  rw [← List.take_append_drop i l, ZhZ] at h
  obtain ⟨x, y, hx, hy, rfl⟩ := ZeI h
  have h1 := ZxL lk _ _ hx
  have h2 := ZeH (Zeg lk (l.take i))
  omega
theorem Zo8 {l : List Val} {v : Val} (hv : v ∈ l) (h : v.hasv = true) : Zbx l = true := by
  induction l with
  | nil => cases hv
  | cons w l ih =>
    rw [Zbx]
    rcases List.mem_cons.1 hv with rfl | hv
    · rw [h]; rfl
    · rw [ih hv, Bool.or_true]
end Go.Tev
namespace Go.Tev.S1
open Go.Abs Go.Proofs
def okC' (a : List Val × List Cus) : Prop := Zak a.1 ≤ B ∧ a.2.length ≤ B ∧ ∀ p ∈ a.2, Zak p.val ≤ V
instance (a) : Decidable (okC' a) := inferInstanceAs (Decidable (_ ∧ _ ∧ _))
end Go.Tev.S1
namespace Go.Tev.S1
open Go.Abs Go.Proofs
abbrev Mp := List (List UInt8 × List Val)
def YdE (lk : Lk) : Prop := ∀ n x, lk n = some x → Zak x ≤ V ∧ Zbx x = false
def okP (lk : Lk) (l : List Val) : Prop := Zak l ≤ B ∧ YdE lk ∧ ∃ n, ZeA lk l = some n ∧ n ≤ B
open Classical in
noncomputable def YbM (a : List Val × Mp) : Option (List Val) := if okP (lkM a.2) a.1 then some (Zeg (lkM a.2) a.1) else none
theorem ZsG {l : List Val} {m : Mp} (h : okP (lkM m) l) : YbM (l, m) = some (Zeg (lkM m) l) := if_pos h
def szP (l : List Val) : Nat := if Zbx l then B + 1 + Zak l else Zak l
theorem Yc4 {lk : Lk} {l : List Val} (h : okP lk l) {v : Val} (hv : v ∈ l) :
    (v.ref = false → okP lk v.l ∧ szP v.l < szP l) ∧
    (v.ref = true → ∀ x, lk (Zaw v.l).1 = some x → okP lk x ∧ szP x < szP l ∧ Zeg lk x = x) ∧
    (v.ref = true → lk (Zaw v.l).1 = none → okP lk (Zaw v.l).2.1 ∧ szP (Zaw v.l).2.1 < szP l) := by
  have hB : B = 2 ^ 36 := rfl
  have hV : V = 2 ^ 24 := rfl
  obtain ⟨h1, h2, n, h3, h4⟩ := h
  obtain ⟨n', h5, h6⟩ := YbI h3 hv
  have hs := ZeR hv
  have hp := Ziy v.l
  have hmono : ∀ (y : List Val), Zak y < Zak l → (Zbx y = true → Zbx l = true) → szP y < szP l := by
    intro y hy hh
    unfold szP
    by_cases e : Zbx y = true
    · rw [if_pos e, if_pos (hh e)]; omega
    · rw [if_neg e]; split <;> omega
  refine ⟨fun e => ?_, fun e x hx => ?_, fun e hx => ?_⟩
  · rw [ZoC e] at h5
    obtain ⟨a, b, ha, hb, rfl⟩ := ZeI h5
    refine ⟨⟨by omega, h2, b, hb, by omega⟩, hmono _ hs (fun hh => Zo8 hv (by rw [Val.hasv_eq, hh, Bool.or_true]))⟩
  · obtain ⟨g1, g2⟩ := h2 _ _ hx
    refine ⟨⟨by omega, h2, Zak x, Zt1 lk x g2, by omega⟩, ?_, ZyZ lk x g2⟩
    have : Zbx l = true := Zo8 hv (by rw [Val.hasv_eq, e]; rfl)
    unfold szP
    rw [if_pos this, if_neg (by rw [g2]; decide)]
    omega
  · cases e3 : (Zaw v.l).2.2 with
    | false => rw [Ztj e hx e3] at h5; cases h5
    | true =>
      rw [Ztk e hx e3] at h5
      refine ⟨⟨by omega, h2, n', h5, by omega⟩, hmono _ (by omega) (fun _ => Zo8 hv (by rw [Val.hasv_eq, e]; rfl))⟩
theorem Zp3 {lk : Lk} {l : List Val} {n : Nat} (h : ZeA lk l = some n) (hn : n ≤ B) {i : Nat} {v : Val} (hv : l[i]? = some v) {b : Nat} (hb : b ≤ 96) : room b ((Zeg lk (l.take i)).length + (ZuT lk v).length) = some () := by
  have hB : B = 2 ^ 36 := rfl
  have h1 := Yby h (i + 1)
  rw [ZbG hv, Zrr, List.length_append] at h1
  exact Ybn (by omega) hb
theorem Zz2 (m : Mp) (l : List Val) (k : Nat) (h1 : szP l < k + 1) (h2 : okP (lkM m) l) :
    ZkT (fun v => some v.ref) (below (fun a : List Val × Mp => szP a.1) k YbM) Zm8 (l.length + 1) l m = some (Zeg (lkM m) l) := by
  have hB : B = 2 ^ 36 := rfl
  have hV : V = 2 ^ 24 := rfl
  unfold ZkT
  have e0 := Ze5 (lkM m)
  refine ((congrArg (fun z => Zgb _ _ z (0 : Int)) e0.symm).trans (Zc5 l (fun b => Zeg (lkM m) b) (fun b v => .inl (b ++ [v])) (fun b => some (Zeg (lkM m) b)) (fun i b => b = l.take i) ?_ ?_ ?_ [] rfl _ (Nat.lt_succ_self _))).trans ?_
  · intro i b v k' hv hlt hb
    subst hb
    have hmem := List.mem_of_getElem? hv
    have hs := ZeR hmem
    have hm1 := Zk0 hmem
    have hl := ZeH l
    have hB2 := h2.1
    obtain ⟨g1, g2, g3⟩ := Yc4 h2 hmem
    obtain ⟨n, hn, hn2⟩ := h2.2.2
    have hr := Zp3 hn hn2 hv (show 80 ≤ 96 by decide)
    have hi : IntKind.i64.wrap ((i : Int) + 1) = ((i + 1 : Nat) : Int) := Za7 (by omega)
    have bel : ∀ x, okP (lkM m) x → szP x < szP l → below (fun a : List Val × Mp => szP a.1) k YbM (x, m) = some (Zeg (lkM m) x) := fun x hx hz => (ZdU (sz := fun a : List Val × Mp => szP a.1) (show szP x < k by omega)).trans (ZsG hx)
    simp only [Zf7, Zbg hv, Option.bind_some, dlt hlt, cond_true, Val.eta, hi, Bool.cond_self]
    rw [Zrr]
    cases e1 : v.ref
    · obtain ⟨g4, g5⟩ := g1 e1
      rw [ZrX e1] at hr ⊢
      simp only [Bool.not_false, cond_true, bel _ g4 g5, Option.bind_some, hr]
    · simp only [Bool.not_true, cond_false, Zmc (show v.tot ≤ B by omega), Option.bind_some]
      cases e2 : ZaV BEq.beq (Zaw v.l).1 m with
      | some x =>
        have e2' : lkM m (Zaw v.l).1 = some x := e2
        obtain ⟨g4, g5, g6⟩ := g2 e1 x e2'
        rw [YaF e1 e2'] at hr ⊢
        simp only [Option.isSome_some, cond_true, Zku, bel _ g4 g5, Option.bind_some, g6, hr]
      | none =>
        have e2' : lkM m (Zaw v.l).1 = none := e2
        obtain ⟨g4, g5⟩ := g3 e1 e2'
        rw [Yad e1 e2'] at hr ⊢
        simp only [Option.isSome_none, cond_false, bel _ g4 g5, Option.bind_some, hr]
  · intro i b v b' hv hb hs
    cases hs
    rw [ZbG hv, hb]
  · intro b k' hb
    simp only [Zf7, Zpk, cond_false]
  · rw [Zdl (fun (b : List Val) (v : Val) => b ++ [v]), Zfz]
theorem YeG {K : Zaa} (hK : Zcu K) : Zaj U (Zab C K) 54 ⟨true, [.ty 22, .ty 60], [22], YbM⟩ :=
  Zd8 (U := U) (ak := [.ty 22, .ty 60]) (rts := [22]) (fun a : List Val × Mp => szP a.1) YbM fun k ih => ZmJ (kf hK 54 (by decide)) _ _ _ (Zsm hK) ih (Zsf hK) _ fun a r h => by
    obtain ⟨h1, h2⟩ := Zc6 h
    unfold YbM at h2
    split at h2
    · rename_i h3; cases h2; exact ⟨_, Zz2 a.2 a.1 k h1 h3⟩
    · cases h2
end Go.Tev.S1
namespace Go.Tev.S1
open Go.Abs Go.Proofs
abbrev T4a : Type := (List UInt8) → Option Bool
abbrev T4b : Type := (List Cus) → Option Bool
abbrev T4c : Type := (List Val) → Option Int
abbrev T4d : Type := (List Val) → Option Bool
abbrev T4e : Type := (List Val) × Int → Option Int
abbrev P4a (K : Zaa) (t : T4a) : Prop := Zaj U (Zab C K) 61 ⟨true, [.ty 9], [4], t⟩
abbrev P4c (K : Zaa) (t : T4b) : Prop := Zaj U (Zab C K) 42 ⟨true, [.ty 23], [4], t⟩
abbrev P4d (K : Zaa) (t : T4c) : Prop := Zaj U (Zab C K) 33 ⟨true, [.ty 22], [28], t⟩
abbrev P4e (K : Zaa) (t : T4d) : Prop := Zaj U (Zab C K) 14 ⟨true, [.ty 22], [4], t⟩
abbrev P4f (K : Zaa) (t : T4c) : Prop := Zaj U (Zab C K) 44 ⟨true, [.ty 22], [3], t⟩
abbrev P4k (K : Zaa) (t : T4d) : Prop := Zaj U (Zab C K) 9 ⟨true, [.ty 22], [4], t⟩
abbrev P4l (K : Zaa) (t : T4e) : Prop := Zaj U (Zab C K) 27 ⟨true, [.ty 22, .ty 3], [3], t⟩
def Zet (qa : T4a) {R : Type} (n : Nat) (a6 : List Cus) (a7 : Int) (kx0 : Bool → Option R) (kr : Bool → Option R) (y2 : Bool) (y3 : List UInt8) (y8 : Int) (k : Bool → List UInt8 → Int → Option R) : Option R :=
  cond (decide (y8 < a7))
  (Option.bind (ZeS a6 y8) fun x3 =>
  Option.bind (qa x3.name) fun r4 =>
  Option.bind (some (cond (!r4) true (Op.bytesLess x3.name y3 || x3.name == y3))) fun m5 =>
  cond m5
  (kr false)
  (k y2 x3.name (IntKind.i64.wrap (y8 + (1 : Int)))))
  (kx0 y2)
def Zhd (qa : T4a) (n : Nat) (p0 : List Cus) : Option Bool :=
  ZoY (Zet qa n p0 (p0.length : Int) (fun z1 =>
  some true) (fun z2 =>
  some z2)) n false [] (0 : Int)
abbrev ZpQ (qa : T4a) : List (Nat × TCall X) := [(61, ⟨true, [.ty 9], [4], qa⟩)]
noncomputable abbrev Zcm (qa : T4a) : Cx := ⟨C, U, ZpQ qa, [], fun _ => []⟩
theorem ZnE : okF (C.ann 42) Tryz.f42 1 = true := by kernel_rfl
abbrev vars_named_L0_D : LD := ⟨0, [.val 6 23, .val 7 2], [.val 2 4, .val 3 9, .val 8 2], [(0, [.val 2 4])], [.val 2 4]⟩
abbrev Zdb (qa : T4a) (n : Nat) : LG U (PX X [4]) vars_named_L0_D := fun c kx kr y k => Zet qa n c.1 c.2.1 (fun z0 => kx 0 (z0, ())) (fun z0 => kr (z0, ())) y.1 y.2.1 y.2.2.1 (fun z0 z1 z2 => k (z0, z1, z2, ()))
noncomputable abbrev Zdv (qa : T4a) (n : Nat) : ZeT (Zcm qa) (PX X [4]) := [(0, Zfk U vars_named_L0_D (Zdb qa n) n)]
theorem ZkX (qa : T4a) (n : Nat) : ∀ c kx kr y k1, evL (Zcm qa) (ann 42) (Zdv qa n) 0 (Zar (Zac Tryz.f42) 0) (ZeE U vars_named_L0_D kx kr k1) (encS U vars_named_L0_D.cap vars_named_L0_D.din c y) = Zdb qa n c (fun i z => kx i c z) kr y (fun y2 => k1 c y2) := by
  intro c kx kr y k1
  kernel_rfl
theorem Zrt (qa : T4a) (n : Nat) : ∀ a, fnL (Zcm qa) true 42 Tryz.f42 [.ty 23] [4] (Zdv qa n) a = Zhd qa n a := by
  intro a
  kernel_rfl
theorem Zim {K : Zaa} (qa : T4a) (h0 : P4a K qa) : CallsOk (Zcm qa) (Zab C K) :=
  ⟨(Zag h0 ZaA), Zaz⟩
theorem Zj1 {K : Zaa} (qa : T4a) (h0 : P4a K qa) (n : Nat) (b0 : Base) (bn0 : b0.nr ≤ 0) : Law (Zcm qa) b0 (Zab C K) (ann 42) n (Zar (Zac Tryz.f42) 0) (Zfk U vars_named_L0_D (Zdb qa n) n) :=
  Zda (x := Zcm qa) (id := 0) ok (Zim qa h0) (sums := Zdv qa n) (Zau (show Zaq 0 (Zar (Zac Tryz.f42) 0) = [] by kernel_rfl)) vars_named_L0_D bn0 (Zdb qa n) (ZkX qa n)
theorem ZkL {K : Zaa} (hK : ∀ args h, K 42 args h = none) (qa : T4a) (h0 : P4a K qa) (t : PX X (AK.tys [.ty 23]) → Option (PX X [4])) (h : ∀ a r, t a = some r → ∃ n, Zhd qa n a = some r) : Zaj U (Zab C K) 42 ⟨true, [.ty 23], [4], t⟩ := by
  refine Zav (x := Zcm qa) (ak := [.ty 23]) (rts := [4]) (dir := true) ok (Zim qa h0) hK Tryz.func42 ZnE fun a r hr => ?_
  obtain ⟨n, hn⟩ := h a r hr
  exact ⟨n, Zdv qa n, (Zbm (ids := [0]) (by kernel_rfl) (by decide) (fun i hi => by
    simp only [List.mem_cons, List.not_mem_nil, or_false] at hi
    rcases hi with rfl
    · exact Zbk (c2 := Zar (Zac Tryz.f42) 0) (by kernel_rfl) (by kernel_rfl) (Zj1 qa h0 _ _ (Nat.le_refl _))
    )), (Zrt qa n a).trans hn⟩
def Zel (qc : T4b) (qd : T4c) (qe : T4d) (qf : T4c) {R : Type} (n : Nat) (a13 : List Cus) (a14 : Int) (kx0 : Int → Option R) (kr : Int → Option R) (y2 : Int) (y15 : Int) (k : Int → Int → Option R) : Option R :=
  cond (decide (y15 < a14))
  (Option.bind (ZeS a13 y15) fun x5 =>
  Option.bind (qd x5.val) fun r6 =>
  Option.bind (cond (!(r6 != (0 : Int))) (qe x5.val) (some false)) fun r7 =>
  Option.bind (some (cond (r6 != (0 : Int)) true r7)) fun m8 =>
  Option.bind (cond (!m8) (qf x5.val) (some (0 : Int))) fun r9 =>
  Option.bind (some (cond m8 true (decide (r9 > (2000 : Int))))) fun m10 =>
  cond m10
  (kr (8 : Int))
  (k y2 (IntKind.i64.wrap (y15 + (1 : Int)))))
  (kx0 y2)
def Zg2 (qc : T4b) (qd : T4c) (qe : T4d) (qf : T4c) (n : Nat) (p0 : List Cus) : Option Int :=
  Option.bind (cond (!(decide ((p0.length : Int) > (64 : Int)))) (qc p0) (some false)) fun r1 =>
  Option.bind (some (cond (decide ((p0.length : Int) > (64 : Int))) true (!r1))) fun m2 =>
  cond m2
  (some (8 : Int))
  (Zgb (Zel qc qd qe qf n p0 (p0.length : Int) (fun z3 =>
  some (0 : Int)) (fun z4 =>
  some z4)) n (0 : Int) (0 : Int))
abbrev ZqV (qc : T4b) (qd : T4c) (qe : T4d) (qf : T4c) : List (Nat × TCall X) := [(42, ⟨true, [.ty 23], [4], qc⟩), (33, ⟨true, [.ty 22], [28], qd⟩), (14, ⟨true, [.ty 22], [4], qe⟩), (44, ⟨true, [.ty 22], [3], qf⟩)]
noncomputable abbrev Zcs (qc : T4b) (qd : T4c) (qe : T4d) (qf : T4c) : Cx := ⟨C, U, ZqV qc qd qe qf, [], fun _ => []⟩
theorem ZnM : okF (C.ann 22) Tryz.f22 1 = true := by kernel_rfl
abbrev vars_Check_L0_D : LD := ⟨0, [.val 13 23, .val 14 2], [.val 2 2, .val 15 2], [(0, [.val 2 2])], [.val 2 28]⟩
abbrev Zdu (qc : T4b) (qd : T4c) (qe : T4d) (qf : T4c) (n : Nat) : LG U (PX X [28]) vars_Check_L0_D := fun c kx kr y k => Zel qc qd qe qf n c.1 c.2.1 (fun z0 => kx 0 (z0, ())) (fun z0 => kr (z0, ())) y.1 y.2.1 (fun z0 z1 => k (z0, z1, ()))
noncomputable abbrev Zdq (qc : T4b) (qd : T4c) (qe : T4d) (qf : T4c) (n : Nat) : ZeT (Zcs qc qd qe qf) (PX X [28]) := [(0, Zfk U vars_Check_L0_D (Zdu qc qd qe qf n) n)]
theorem Zl0 (qc : T4b) (qd : T4c) (qe : T4d) (qf : T4c) (n : Nat) : ∀ c kx kr y k1, evL (Zcs qc qd qe qf) (ann 22) (Zdq qc qd qe qf n) 0 (Zar (Zac Tryz.f22) 0) (ZeE U vars_Check_L0_D kx kr k1) (encS U vars_Check_L0_D.cap vars_Check_L0_D.din c y) = Zdu qc qd qe qf n c (fun i z => kx i c z) kr y (fun y2 => k1 c y2) := by
  intro c kx kr y k1
  kernel_rfl
theorem Zq0 (qc : T4b) (qd : T4c) (qe : T4d) (qf : T4c) (n : Nat) : ∀ a, fnL (Zcs qc qd qe qf) true 22 Tryz.f22 [.ty 23] [28] (Zdq qc qd qe qf n) a = Zg2 qc qd qe qf n a := by
  intro a
  kernel_rfl
theorem ZiD {K : Zaa} (qc : T4b) (qd : T4c) (qe : T4d) (qf : T4c) (h0 : P4c K qc) (h1 : P4d K qd) (h2 : P4e K qe) (h3 : P4f K qf) : CallsOk (Zcs qc qd qe qf) (Zab C K) :=
  ⟨(Zag h0 (Zag h1 (Zag h2 (Zag h3 ZaA)))), Zaz⟩
theorem Zjn {K : Zaa} (qc : T4b) (qd : T4c) (qe : T4d) (qf : T4c) (h0 : P4c K qc) (h1 : P4d K qd) (h2 : P4e K qe) (h3 : P4f K qf) (n : Nat) (b0 : Base) (bn0 : b0.nr ≤ 0) : Law (Zcs qc qd qe qf) b0 (Zab C K) (ann 22) n (Zar (Zac Tryz.f22) 0) (Zfk U vars_Check_L0_D (Zdu qc qd qe qf n) n) :=
  Zda (x := Zcs qc qd qe qf) (id := 0) ok (ZiD qc qd qe qf h0 h1 h2 h3) (sums := Zdq qc qd qe qf n) (Zau (show Zaq 0 (Zar (Zac Tryz.f22) 0) = [] by kernel_rfl)) vars_Check_L0_D bn0 (Zdu qc qd qe qf n) (Zl0 qc qd qe qf n)
theorem Zkp {K : Zaa} (hK : ∀ args h, K 22 args h = none) (qc : T4b) (qd : T4c) (qe : T4d) (qf : T4c) (h0 : P4c K qc) (h1 : P4d K qd) (h2 : P4e K qe) (h3 : P4f K qf) (t : PX X (AK.tys [.ty 23]) → Option (PX X [28])) (h : ∀ a r, t a = some r → ∃ n, Zg2 qc qd qe qf n a = some r) : Zaj U (Zab C K) 22 ⟨true, [.ty 23], [28], t⟩ := by
  refine Zav (x := Zcs qc qd qe qf) (ak := [.ty 23]) (rts := [28]) (dir := true) ok (ZiD qc qd qe qf h0 h1 h2 h3) hK Tryz.func22 ZnM fun a r hr => ?_
  obtain ⟨n, hn⟩ := h a r hr
  exact ⟨n, Zdq qc qd qe qf n, (Zbm (ids := [0]) (by kernel_rfl) (by decide) (fun i hi => by
    simp only [List.mem_cons, List.not_mem_nil, or_false] at hi
    rcases hi with rfl
    · exact Zbk (c2 := Zar (Zac Tryz.f22) 0) (by kernel_rfl) (by kernel_rfl) (Zjn qc qd qe qf h0 h1 h2 h3 _ _ (Nat.le_refl _))
    )), (Zq0 qc qd qe qf n a).trans hn⟩
def ZcI (qk : T4d) (ql : T4e) {R : Type} (n : Nat) (a0 : List Cus) (kx0 : Bool → Int → Option R) (kr : Bool → Option R) (y2 : Bool) (y3 : Int) (y4 : Int) (k : Bool → Int → Int → Option R) : Option R :=
  Option.bind (some (cond (decide (y4 < (a0.length : Int))) (decide (y4 ≤ (70 : Int))) false)) fun m5 =>
  cond m5
  (Option.bind (ZeS a0 y4) fun x6 =>
  Option.bind (qk x6.val) fun r7 =>
  Option.bind (cond (!r7) (ZeS a0 y4) (some zCus)) fun x8 =>
  Option.bind (some (cond r7 true (decide ((x8.name.length : Int) > (100 : Int))))) fun m9 =>
  cond m9
  (kr true)
  (Option.bind (ZeS a0 y4) fun x10 =>
  Option.bind (ql (x10.val, (300 : Int))) fun r11 =>
  k y2 (IntKind.i64.wrap (y3 + r11)) (IntKind.i64.wrap (y4 + (1 : Int)))))
  (kx0 y2 y3)
def ZfR (qk : T4d) (ql : T4e) (n : Nat) (p0 : List Cus) : Option Bool :=
  ZoY (ZcI qk ql n p0 (fun z1 z2 =>
  Option.bind (some (cond (decide ((p0.length : Int) > (70 : Int))) true (decide (z2 > (1500 : Int))))) fun m3 =>
  some m3) (fun z4 =>
  some z4)) n false (0 : Int) (0 : Int)
abbrev ZnJ (qk : T4d) (ql : T4e) : List (Nat × TCall X) := [(9, ⟨true, [.ty 22], [4], qk⟩), (27, ⟨true, [.ty 22, .ty 3], [3], ql⟩)]
noncomputable abbrev Zb3 (qk : T4d) (ql : T4e) : Cx := ⟨C, U, ZnJ qk ql, [], fun _ => []⟩
theorem ZmB : okF (C.ann 10) Tryz.f10 1 = true := by kernel_rfl
abbrev ref30_Great_L0_D : LD := ⟨0, [.val 0 23], [.val 2 4, .val 3 2, .val 4 2], [(0, [.val 2 4, .val 3 2])], [.val 2 4]⟩
abbrev ZcQ (qk : T4d) (ql : T4e) (n : Nat) : LG U (PX X [4]) ref30_Great_L0_D := fun c kx kr y k => ZcI qk ql n c.1 (fun z0 z1 => kx 0 (z0, z1, ())) (fun z0 => kr (z0, ())) y.1 y.2.1 y.2.2.1 (fun z0 z1 z2 => k (z0, z1, z2, ()))
noncomputable abbrev ZcS (qk : T4d) (ql : T4e) (n : Nat) : ZeT (Zb3 qk ql) (PX X [4]) := [(0, Zfk U ref30_Great_L0_D (ZcQ qk ql n) n)]
theorem Zky (qk : T4d) (ql : T4e) (n : Nat) : ∀ c kx kr y k1, evL (Zb3 qk ql) (ann 10) (ZcS qk ql n) 0 (Zar (Zac Tryz.f10) 0) (ZeE U ref30_Great_L0_D kx kr k1) (encS U ref30_Great_L0_D.cap ref30_Great_L0_D.din c y) = ZcQ qk ql n c (fun i z => kx i c z) kr y (fun y2 => k1 c y2) := by
  intro c kx kr y k1
  kernel_rfl
theorem Zoa (qk : T4d) (ql : T4e) (n : Nat) : ∀ a, fnL (Zb3 qk ql) true 10 Tryz.f10 [.ty 23] [4] (ZcS qk ql n) a = ZfR qk ql n a := by
  intro a
  kernel_rfl
theorem ZhP {K : Zaa} (qk : T4d) (ql : T4e) (h0 : P4k K qk) (h1 : P4l K ql) : CallsOk (Zb3 qk ql) (Zab C K) :=
  ⟨(Zag h0 (Zag h1 ZaA)), Zaz⟩
theorem Ziv {K : Zaa} (qk : T4d) (ql : T4e) (h0 : P4k K qk) (h1 : P4l K ql) (n : Nat) (b0 : Base) (bn0 : b0.nr ≤ 0) : Law (Zb3 qk ql) b0 (Zab C K) (ann 10) n (Zar (Zac Tryz.f10) 0) (Zfk U ref30_Great_L0_D (ZcQ qk ql n) n) :=
  Zda (x := Zb3 qk ql) (id := 0) ok (ZhP qk ql h0 h1) (sums := ZcS qk ql n) (Zau (show Zaq 0 (Zar (Zac Tryz.f10) 0) = [] by kernel_rfl)) ref30_Great_L0_D bn0 (ZcQ qk ql n) (Zky qk ql n)
theorem ZjL {K : Zaa} (hK : ∀ args h, K 10 args h = none) (qk : T4d) (ql : T4e) (h0 : P4k K qk) (h1 : P4l K ql) (t : PX X (AK.tys [.ty 23]) → Option (PX X [4])) (h : ∀ a r, t a = some r → ∃ n, ZfR qk ql n a = some r) : Zaj U (Zab C K) 10 ⟨true, [.ty 23], [4], t⟩ := by
  refine Zav (x := Zb3 qk ql) (ak := [.ty 23]) (rts := [4]) (dir := true) ok (ZhP qk ql h0 h1) hK Tryz.func10 ZmB fun a r hr => ?_
  obtain ⟨n, hn⟩ := h a r hr
  exact ⟨n, ZcS qk ql n, (Zbm (ids := [0]) (by kernel_rfl) (by decide) (fun i hi => by
    simp only [List.mem_cons, List.not_mem_nil, or_false] at hi
    rcases hi with rfl
    · exact Zbk (c2 := Zar (Zac Tryz.f10) 0) (by kernel_rfl) (by kernel_rfl) (Ziv qk ql h0 h1 _ _ (Nat.le_refl _))
    )), (Zoa qk ql n a).trans hn⟩
end Go.Tev.S1
namespace Go.Tev
open Go.Abs
theorem Zic (a : List UInt8) : Op.bytesLess a a = false := by
  induction a with
  | nil => rfl
  | cons x a ih => rw [Op.bytesLess, ih]; simp
theorem Ztn (a b : List UInt8) : (!(Op.bytesLess a b || a == b)) = Op.bytesLess b a := by
  induction a generalizing b with
  | nil => cases b <;> rfl
  | cons x a ih => cases b with
    | nil => rfl
    | cons y b =>
      have := ih b
      rw [Op.bytesLess, Op.bytesLess, ← this, List.cons_beq_cons]
      by_cases h1 : x = y
      · subst h1
        have : decide (x < x) = false := by simp
        rw [this]
        simp
      · have h2 : (x == y) = false := by simpa using h1
        have h3 : (y == x) = false := by simpa using fun h => h1 h.symm
        rw [h2, h3]
        simp only [Bool.false_and, Bool.or_false]
        rw [← decide_not]
        congr 1
        rw [UInt8.lt_iff_toNat_lt, UInt8.lt_iff_toNat_lt]
        have : x.toNat ≠ y.toNat := fun h => h1 (UInt8.toNat_inj.1 h)
        apply propext
        omega
theorem Zjg {a b c : List UInt8} (h1 : Op.bytesLess a b = true) (h2 : Op.bytesLess b c = true) : Op.bytesLess a c = true := by
  induction a generalizing b c with
  | nil => cases c with
    | nil => cases b <;> simp [Op.bytesLess] at h2
    | cons => rfl
  | cons x a ih => cases b with
    | nil => simp [Op.bytesLess] at h1
    | cons y b => cases c with
      | nil => simp [Op.bytesLess] at h2
      | cons z c =>
        rw [Op.bytesLess, Bool.or_eq_true, Bool.and_eq_true, decide_eq_true_iff, beq_iff_eq] at h1 h2 ⊢
        rcases h1 with h1 | ⟨h1, h1'⟩
        · rcases h2 with h2 | ⟨h2, h2'⟩
          · left; rw [UInt8.lt_iff_toNat_lt] at *; omega
          · left; rw [← h2]; exact h1
        · rcases h2 with h2 | ⟨h2, h2'⟩
          · left; rw [h1]; exact h2
          · right; exact ⟨h1.trans h2, ih h1' h2'⟩
def namL : Option (List UInt8) → List Cus → Bool
  | _, [] => true
  | p, c :: r => ZbT c.name && (match p with
    | none => true
    | some q => Op.bytesLess q c.name) && namL (some c.name) r
theorem Zrs {n : List UInt8} (h : ZbT n = true) : n ≠ [] := by
  intro e; subst e; simp [ZbT] at h
theorem ZxJ {q : List UInt8} {c : List Cus} (h : namL (some q) c = true) : ∀ x ∈ c, Op.bytesLess q x.name = true := by
  induction c generalizing q with
  | nil => intro x hx; cases hx
  | cons y c ih =>
    rw [namL, Bool.and_eq_true, Bool.and_eq_true] at h
    intro x hx
    rcases List.mem_cons.1 hx with rfl | hx
    · exact h.1.2
    · exact Zjg h.1.2 (ih h.2 x hx)
theorem ZlC {p : Option (List UInt8)} {y : Cus} {c : List Cus} (h : namL p (y :: c) = true) : (∀ x ∈ c, x.name ≠ y.name) ∧ namL (some y.name) c = true := by
  have h2 : namL (some y.name) c = true := by
    rw [namL.eq_def] at h
    simp only [Bool.and_eq_true] at h
    exact h.2
  refine ⟨fun x hx e => ?_, h2⟩
  have := ZxJ h2 x hx
  rw [e, Zic] at this
  cases this
def YbB (c : List Cus) : List (List UInt8 × List Val) := c.foldl (fun h x => Zgw BEq.beq x.name x.val h) []
theorem ZqE (n k : List UInt8) (x : List Val) : ∀ h : List (List UInt8 × List Val), ZaV BEq.beq k (Zgw BEq.beq n x h) = if k == n then some x else ZaV BEq.beq k h
  | [] => by
    simp only [Zgw, ZaV]
    cases (k == n) <;> rfl
  | (k', u) :: r => by
    simp only [Zgw]
    cases e : (n == k')
    · simp only [cond_false, ZaV]
      rw [ZqE n k x r]
      cases e2 : (k == k')
      · simp
      · simp only [cond_true]
        have h1 : k = k' := by simpa using e2
        have h2 : (k == n) = false := by rw [h1]; rw [beq_eq_false_iff_ne] at e ⊢; exact fun h => e h.symm
        rw [h2]; rfl
    · simp only [cond_true, ZaV]
      have h1 : n = k' := by simpa using e
      rw [h1]
      cases e2 : (k == k') <;> rfl
theorem Zyn {n : List UInt8} {x : List Val} {h : List (List UInt8 × List Val)} {p : List UInt8 × List Val} (hp : p ∈ Zgw BEq.beq n x h) : p = (n, x) ∨ p ∈ h := by
  induction h with
  | nil => simp only [Zgw, List.mem_singleton] at hp; exact .inl hp
  | cons q h ih =>
    obtain ⟨k', u⟩ := q
    simp only [Zgw] at hp
    cases e : (n == k') <;> rw [e] at hp
    · rcases List.mem_cons.1 hp with rfl | hp
      · exact .inr List.mem_cons_self
      · rcases ih hp with h | h
        · exact .inl h
        · exact .inr (List.mem_cons_of_mem _ h)
    · rcases List.mem_cons.1 hp with rfl | hp
      · exact .inl rfl
      · exact .inr (List.mem_cons_of_mem _ hp)
theorem Yc2 {c : List Cus} {p : List UInt8 × List Val} (hp : p ∈ YbB c) : ∃ x ∈ c, p.2 = x.val := by
  have : ∀ (c : List Cus) (h : List (List UInt8 × List Val)), p ∈ c.foldl (fun h x => Zgw BEq.beq x.name x.val h) h → p ∈ h ∨ ∃ x ∈ c, p.2 = x.val := by
    intro c
    induction c with
    | nil => intro h hp; exact .inl hp
    | cons y c ih =>
      intro h hp
      rcases ih _ hp with h1 | ⟨x, hx, h1⟩
      · rcases Zyn h1 with rfl | h2
        · exact .inr ⟨y, List.mem_cons_self, rfl⟩
        · exact .inl h2
      · exact .inr ⟨x, List.mem_cons_of_mem _ hx, h1⟩
  rcases this c [] hp with h | h
  · cases h
  · exact h
theorem Ycu {c : List Cus} {p : Option (List UInt8)} (hn : namL p c = true) : lkM (YbB c) = lkC c := by
  have : ∀ (c : List Cus) (p : Option (List UInt8)) (h : List (List UInt8 × List Val)) (k : List UInt8), namL p c = true → ZaV BEq.beq k (c.foldl (fun h x => Zgw BEq.beq x.name x.val h) h) = (match lkC c k with
      | some x => some x
      | none => ZaV BEq.beq k h) := by
    intro c
    induction c with
    | nil => intro p h k _; rfl
    | cons y c ih =>
      intro p h k hn
      obtain ⟨h1, h2⟩ := ZlC hn
      simp only [List.foldl_cons, lkC]
      rw [ih _ _ _ h2, ZqE]
      by_cases e : (y.name == k) = true
      · rw [if_pos e]
        have e1 : y.name = k := by simpa using e
        have e2 : (k == y.name) = true := by simp [e1]
        have e3 : lkC c k = none := by
          cases e3 : lkC c k with
          | none => rfl
          | some x =>
            exfalso
            clear ih hn h2
            induction c with
            | nil => cases e3
            | cons z c ih2 =>
              simp only [lkC] at e3
              split at e3
              · rename_i hz
                have : z.name = k := by simpa using hz
                exact h1 z List.mem_cons_self (this.trans e1.symm)
              · exact ih2 (fun x hx => h1 x (List.mem_cons_of_mem _ hx)) e3
        rw [e3, e2]; rfl
      · rw [if_neg e]
        have e2 : (k == y.name) = false := by
          rw [Bool.not_eq_true, beq_eq_false_iff_ne] at e
          rw [beq_eq_false_iff_ne]; exact fun h => e h.symm
        rw [e2]
        cases lkC c k <;> rfl
  funext k
  unfold lkM YbB
  rw [this c p [] k hn]
  cases lkC c k <;> rfl
end Go.Tev
namespace Go.Tev.S1
open Go.Abs Go.Proofs
def Zqd (c : List Cus) : Option Bool := if c.length ≤ B then some (namL none c) else none
theorem ZqJ {c : List Cus} (h : c.length ≤ B) : Zqd c = some (namL none c) := if_pos h
def YcK (p : Option (List UInt8)) (v : Cus) : Bool := ZbT v.name && (match p with
  | none => true
  | some q => Op.bytesLess q v.name)
theorem YcC (l : List Cus) : ∀ p, Zmm (fun (p : Option (List UInt8)) v => if YcK p v = true then .inl (some v.name) else .inr (some false)) (fun _ => some true) l p = some (namL p l) := by
  induction l with
  | nil => intro p; rw [namL.eq_def]; rfl
  | cons v l ih =>
    intro p
    simp only [Zmm]
    have e : namL p (v :: l) = (YcK p v && namL (some v.name) l) := by rw [namL.eq_def]; rfl
    rw [e]
    by_cases h : YcK p v = true
    · rw [if_pos h, h]; exact ih _
    · rw [if_neg h, (Bool.not_eq_true _).mp h]; rfl
def Ycn : Option (List UInt8) → List UInt8
  | none => []
  | some q => q
theorem ZuO (c : List Cus) (h : c.length ≤ B) : Zhd (fun p => some (ZbT p)) (c.length + 1) c = some (namL none c) := by
  have hB : B = 2 ^ 36 := rfl
  unfold Zhd
  refine (Zhv c (fun (_ : Option (List UInt8)) => false) Ycn (fun p v => if YcK p v = true then .inl (some v.name) else .inr (some false)) (fun _ => some true) (fun i b => True) ?_ ?_ ?_ none trivial _ (Nat.lt_succ_self _)).trans (YcC c none)
  · intro i b v k' hv hlt hb
    have hi : IntKind.i64.wrap ((i : Int) + 1) = ((i + 1 : Nat) : Int) := Za7 (by omega)
    simp only [Zet, Zbg hv, Option.bind_some, dlt hlt, cond_true, hi]
    have key : (bif !ZbT v.name then true else (Op.bytesLess v.name (Ycn b) || v.name == Ycn b)) = !YcK b v := by
      unfold YcK
      cases e1 : ZbT v.name
      · rfl
      · have hne := Zrs e1
        cases b with
        | none =>
          cases e3 : v.name with
          | nil => exact absurd e3 hne
          | cons x r => rfl
        | some q =>
          change (Op.bytesLess v.name q || v.name == q) = !(true && Op.bytesLess q v.name)
          rw [← Ztn v.name q, Bool.true_and, Bool.not_not]
    rw [key]
    cases YcK b v <;> rfl
  · intro i b v b' hv hb hs; trivial
  · intro b k' hb
    simp only [Zet, Zpk, cond_false]
theorem ZwG {K : Zaa} (hK : Zcu K) : Zaj U (Zab C K) 42 ⟨true, [.ty 23], [4], Zqd⟩ :=
  ZkL (kf hK 42 (by decide)) _ (Ztx hK) _ fun a r h => by
    unfold Zqd at h
    split at h
    · rename_i h3; cases h; exact ⟨_, ZuO a h3⟩
    · cases h
def Yeu (c : List Cus) : Option Mp := if c.length ≤ B then some (YbB c) else none
theorem YbS {c : List Cus} (h : c.length ≤ B) : Yeu c = some (YbB c) := if_pos h
theorem Zu1 (c : List Cus) (h : c.length ≤ B) : ZgZ (c.length + 1) c = some (YbB c) := by
  have hB : B = 2 ^ 36 := rfl
  unfold ZgZ
  refine (ZhT c (fun (b : Mp) => b) (fun b v => .inl (Zgw BEq.beq v.name v.val b)) (fun b => some b) (fun i b => True) ?_ ?_ ?_ [] trivial _ (Nat.lt_succ_self _)).trans ?_
  · intro i b v k' hv hlt hb
    have hi : IntKind.i64.wrap ((i : Int) + 1) = ((i + 1 : Nat) : Int) := Za7 (by omega)
    simp only [Zei, Zbg hv, Option.bind_some, dlt hlt, cond_true, hi]
  · intro i b v b' hv hb hs; trivial
  · intro b k' hb
    simp only [Zei, Zpk, cond_false]
  · rw [Zdl (fun (b : Mp) (v : Cus) => Zgw BEq.beq v.name v.val b)]; rfl
theorem YcG {K : Zaa} (hK : Zcu K) : Zaj U (Zab C K) 35 ⟨false, [.ty 23], [60], Yeu⟩ :=
  Zks (kf hK 35 (by decide)) _ fun a r h => by
    unfold Yeu at h
    split at h
    · rename_i h3; cases h; exact ⟨_, Zu1 a h3⟩
    · cases h
def Zkh (v : Cus) : Bool := (ZaE v.val != 0) || Zbx v.val || decide (Zak v.val > 2000)
def YaQ : List Cus → Int
  | [] => 0
  | v :: r => if Zkh v then 8 else YaQ r
def Zvq (c : List Cus) : Int := if c.length > 64 ∨ namL none c = false then 8 else YaQ c
def ZhI (c : List Cus) : Prop := c.length ≤ B ∧ ∀ v ∈ c, Zak v.val ≤ V
instance (a) : Decidable (ZhI a) := inferInstanceAs (Decidable (_ ∧ _))
def Yer (c : List Cus) : Option Int := if ZhI c then some (Zvq c) else none
theorem YcI {c : List Cus} (h : ZhI c) : Yer c = some (Zvq c) := if_pos h
theorem Yb7 (l : List Cus) : Zmm (fun (_ : Unit) v => if Zkh v = true then .inr (some (8 : Int)) else .inl ()) (fun _ => some (0 : Int)) l () = some (YaQ l) := by
  induction l with
  | nil => rfl
  | cons v l ih =>
    simp only [Zmm, YaQ]
    by_cases h : Zkh v = true
    · rw [if_pos h, if_pos h]
    · rw [if_neg h, if_neg h]; exact ih
theorem Zyq (c : List Cus) (h : ZhI c) : Zg2 Zqd ZiV YaW ZmY (c.length + 1) c = some (Zvq c) := by
  have hB : B = 2 ^ 36 := rfl
  have hV : V = 2 ^ 24 := rfl
  obtain ⟨hl, hm⟩ := h
  unfold Zg2 Zvq
  by_cases h1 : c.length > 64
  · have : decide ((c.length : Int) > 64) = true := by simp; omega
    rw [this, if_pos (.inl h1)]; rfl
  · have e : decide ((c.length : Int) > 64) = false := by simp; omega
    simp only [e, Bool.not_false, cond_true, cond_false, ZqJ hl, Option.bind_some]
    cases h2 : namL none c
    · rw [if_pos (.inr rfl)]; rfl
    · rw [if_neg (by simp; omega)]
      simp only [Bool.not_true, cond_false]
      refine (Zc5 c (fun (_ : Unit) => (0 : Int)) (fun _ v => if Zkh v = true then .inr (some (8 : Int)) else .inl ()) (fun _ => some (0 : Int)) (fun i b => True) ?_ ?_ ?_ () trivial _ (Nat.lt_succ_self _)).trans (Yb7 c)
      · intro i b v k' hv hlt hb
        have hvm := hm v (List.mem_of_getElem? hv)
        have hi : IntKind.i64.wrap ((i : Int) + 1) = ((i + 1 : Nat) : Int) := Za7 (by omega)
        have hd : decide ((Zak v.val : Int) > 2000) = decide (Zak v.val > 2000) := by simp; omega
        simp only [Zel, Zbg hv, Option.bind_some, dlt hlt, cond_true, hi, ZeD (show Zak v.val ≤ B by omega), ZrB (show Zak v.val ≤ B by omega), ZiG (show Zak v.val ≤ B by omega)]
        unfold Zkh
        cases e1 : (ZaE v.val != 0) <;> cases e2 : Zbx v.val <;> cases e3 : decide (Zak v.val > 2000) <;> rw [e3] at hd <;> first | rfl | simp [hd]
      · intro i b v b' hv hb hs; trivial
      · intro b k' hb
        simp only [Zel, Zpk, cond_false]
theorem YbT {K : Zaa} (hK : Zcu K) : Zaj U (Zab C K) 22 ⟨true, [.ty 23], [28], Yer⟩ :=
  Zkp (kf hK 22 (by decide)) _ _ _ _ (ZwG hK) (ZdO (kf hK 33 (by decide)) (kf hK 52 (by decide)) (kf hK 66 (by decide))) (Ydx hK) (Zs4 hK) _ fun a r h => by
    unfold Yer at h
    split at h
    · rename_i h3; cases h; exact ⟨_, Zyq a h3⟩
    · cases h
end Go.Tev.S1
namespace Go.Tev.S1
open Go.Abs Go.Proofs
def Zd7 (lk : Lk) (l : List Val) : List Val × Int := match ZeA lk l with
  | none => ([], 6)
  | some n => if 2000 < n ∧ Zbx l = true then ([], 28) else if ZaE (Zeg lk l) = 0 then (Zeg lk l, 0) else ([], ZaE (Zeg lk l))
def okR (lk : Lk) (l : List Val) : Prop := Zak l ≤ B ∧ YdE lk
open Classical in
noncomputable def ZkV (a : List Val × Mp) : Option (List Val × Int) := if okR (lkM a.2) a.1 ∧ ∀ p ∈ a.2, Zak p.2 ≤ V then some (Zd7 (lkM a.2) a.1) else none
theorem ZlT {l : List Val} {m : Mp} (h : okR (lkM m) l) (h2 : ∀ p ∈ m, Zak p.2 ≤ V) : ZkV (l, m) = some (Zd7 (lkM m) l) := if_pos ⟨h, h2⟩
theorem ZwK {lk : Lk} {l : List Val} (h : okR lk l) {n : Nat} (hn : ZeA lk l = some n) (h2 : ¬ (2000 < n ∧ Zbx l = true)) : okP lk l ∧ Zak (Zeg lk l) ≤ B := by
  have hB : B = 2 ^ 36 := rfl
  have : n ≤ B := by
    by_cases h3 : 2000 < n
    · cases e : Zbx l with
      | true => exact absurd ⟨h3, e⟩ h2
      | false =>
        rw [Zt1 lk l e] at hn
        cases hn
        exact h.1
    · omega
  exact ⟨⟨h.1, h.2, n, hn, this⟩, by rw [ZxL lk l n hn]; exact this⟩
theorem Zpq (m : Mp) (l : List Val) (h : okR (lkM m) l) (hm : ∀ p ∈ m, Zak p.2 ≤ V) : Zfe YaH YaW YbM ZiV 0 l m = some (Zd7 (lkM m) l) := by
  unfold Zfe Zd7
  rw [ZrO h.1 hm]
  cases e : ZeA (lkM m) l with
  | none =>
    rw [Zii e]; rfl
  | some n =>
    rw [Zh9 e]
    have e1 : decide ((n : Int) < 0) = false := by simp
    simp only [Option.bind_some, e1, cond_false, ZrB h.1]
    by_cases h2 : 2000 < n ∧ Zbx l = true
    · have e2 : decide ((n : Int) > 2000) = true := by simp; omega
      rw [if_pos h2]
      simp only [e2, h2.2, cond_true, Option.bind_some]
    · obtain ⟨g1, g2⟩ := ZwK h e h2
      have e2 : (bif decide ((n : Int) > 2000) then Zbx l else false) = false := by
        by_cases h3 : 2000 < n
        · have : Zbx l = false := by
            cases e : Zbx l with
            | true => exact absurd ⟨h3, e⟩ h2
            | false => rfl
          rw [this]; simp
        · have : decide ((n : Int) > 2000) = false := by simp; omega
          rw [this]; rfl
      rw [if_neg h2]
      have e3 : ∀ (X : Option Bool), (Option.bind (bif decide ((n : Int) > 2000) then some (Zbx l) else some false) fun r2 => (some (bif decide ((n : Int) > 2000) then r2 else false))) = some false := by
        intro X
        rw [← e2]
        cases decide ((n : Int) > 2000) <;> rfl
      cases e4 : decide ((n : Int) > 2000)
      · simp only [cond_false, Option.bind_some, ZsG g1, ZeD g2]
        by_cases h5 : ZaE (Zeg (lkM m) l) = 0
        · have : (ZaE (Zeg (lkM m) l) != 0) = false := by simpa using h5
          rw [this, if_pos h5]; rfl
        · have : (ZaE (Zeg (lkM m) l) != 0) = true := by simpa using h5
          rw [this, if_neg h5]; rfl
      · have e5 : Zbx l = false := by rw [e4] at e2; exact e2
        simp only [cond_true, e5, cond_false, Option.bind_some, ZsG g1, ZeD g2]
        by_cases h5 : ZaE (Zeg (lkM m) l) = 0
        · have : (ZaE (Zeg (lkM m) l) != 0) = false := by simpa using h5
          rw [this, if_pos h5]; rfl
        · have : (ZaE (Zeg (lkM m) l) != 0) = true := by simpa using h5
          rw [this, if_neg h5]; rfl
theorem Zq4 {K : Zaa} (hK : Zcu K) : Zaj U (Zab C K) 34 ⟨true, [.ty 22, .ty 60], [22, 28], ZkV⟩ :=
  Zix (kf hK 34 (by decide)) _ _ _ _ (Zxh hK) (Ydx hK) (YeG hK) (ZdO (kf hK 33 (by decide)) (kf hK 52 (by decide)) (kf hK 66 (by decide))) _ fun a r h => by
    unfold ZkV at h
    split at h
    · rename_i h3; cases h; exact ⟨0, Zpq a.2 a.1 h3.1 h3.2⟩
    · cases h
def YaR (l : List Val) (c : List Cus) : List Val × Int := if ZaE l ≠ 0 then ([], ZaE l) else if Zvq c ≠ 0 then ([], Zvq c) else Zd7 (lkC c) l
def ZgD (a : List Val × List Cus) : Option (List Val × Int) := if Zak a.1 ≤ B ∧ ZhI a.2 then some (YaR a.1 a.2) else none
theorem Zqy {l : List Val} {c : List Cus} (h : Zak l ≤ B) (h2 : ZhI c) : ZgD (l, c) = some (YaR l c) := if_pos ⟨h, h2⟩
theorem YcT {c : List Cus} (h : YaQ c = 0) : ∀ v ∈ c, Zbx v.val = false := by
  induction c with
  | nil => intro v hv; cases hv
  | cons y c ih =>
    simp only [YaQ] at h
    split at h
    · cases h
    · rename_i h2
      intro v hv
      rcases List.mem_cons.1 hv with rfl | hv
      · rw [Bool.not_eq_true, Zkh, Bool.or_eq_false_iff, Bool.or_eq_false_iff] at h2
        exact h2.1.2
      · exact ih h v hv
theorem Ya1 {c : List Cus} (h : Zvq c = 0) (h2 : ZhI c) : YdE (lkC c) ∧ namL none c = true := by
  unfold Zvq at h
  split at h
  · cases h
  · rename_i h3
    have h4 : namL none c = true := by
      cases e : namL none c with
      | true => rfl
      | false => exact absurd (.inr e) h3
    refine ⟨fun n x hx => ?_, h4⟩
    obtain ⟨p, hp, rfl⟩ := Ya9 hx
    exact ⟨h2.2 p hp, YcT h p hp⟩
theorem Zqk (l : List Val) (c : List Cus) (h : Zak l ≤ B) (h2 : ZhI c) : Ze8 ZiV Yer Yeu ZkV 0 l c = some (YaR l c) := by
  unfold Ze8 YaR
  simp only [ZeD h, YcI h2, YbS h2.1, Option.bind_some]
  by_cases h3 : ZaE l = 0
  · have e3 : (ZaE l != 0) = false := by simpa using h3
    rw [if_neg (by simp [h3]), e3]
    simp only [cond_false]
    by_cases h4 : Zvq c = 0
    · have e4 : (Zvq c != 0) = false := by simpa using h4
      obtain ⟨g1, g2⟩ := Ya1 h4 h2
      have g3 := Ycu g2
      have g4 : ∀ p ∈ YbB c, Zak p.2 ≤ V := by
        intro p hp
        obtain ⟨x, hx, e⟩ := Yc2 hp
        rw [e]; exact h2.2 x hx
      rw [if_neg (by simp [h4]), e4, ZlT (by rw [g3]; exact ⟨h, g1⟩) g4, g3]
      rfl
    · have e4 : (Zvq c != 0) = true := by simpa using h4
      rw [if_pos h4, e4]; rfl
  · have e3 : (ZaE l != 0) = true := by simpa using h3
    rw [if_pos h3, e3]; rfl
theorem Zx7 {K : Zaa} (hK : Zcu K) : Zaj U (Zab C K) 12 ⟨true, [.ty 22, .ty 23], [22, 28], ZgD⟩ :=
  ZiB (kf hK 12 (by decide)) _ _ _ _ (ZdO (kf hK 33 (by decide)) (kf hK 52 (by decide)) (kf hK 66 (by decide))) (YbT hK) (YcG hK) (Zq4 hK) _ fun a r h => by
    unfold ZgD at h
    split at h
    · rename_i h3; cases h; exact ⟨0, Zqk a.1 a.2 h3.1 h3.2⟩
    · cases h
end Go.Tev.S1
namespace Go.Tev
open Go.Abs
mutual
def Val.uses : Val → List (List UInt8)
  | .mk t l => (if (t.k == 2 && (Ze2 t.t == [118, 97, 114])) && ((Zaw l).1 != []) then [(Zaw l).1] else []) ++ Zbh l
def Zbh : List Val → List (List UInt8)
  | [] => []
  | v :: r => v.uses ++ Zbh r
end
theorem Val.uses_eq (v : Val) : v.uses = (if v.ref && ((Zaw v.l).1 != []) then [(Zaw v.l).1] else []) ++ Zbh v.l := by cases v; rfl
theorem Zqf (a b : List Val) : Zbh (a ++ b) = Zbh a ++ Zbh b := by
  induction a with
  | nil => rfl
  | cons v a ih => simp only [List.cons_append, Zbh, ih, List.append_assoc]
theorem Yds {α : Type} (c : Bool) (n : α) : (if c = true then [n] else []).length ≤ 1 := by cases c <;> simp
mutual
theorem Zy8 : ∀ v : Val, v.uses.length ≤ v.tot
  | .mk t l => by
    have := ZiQ l
    rw [Val.uses_eq, Val.tot_eq]
    simp only [Val.l, Val.tok, List.length_append]
    exact Nat.le_trans (Nat.add_le_add_right (Yds _ _) _) (by omega)
theorem ZiQ : ∀ l : List Val, (Zbh l).length ≤ Zak l
  | [] => Nat.le_refl _
  | v :: r => by
    have h1 := Zy8 v
    have h2 := ZiQ r
    simp only [Zbh, Zak, List.length_append]; omega
end
abbrev Bm := List (List UInt8 × Bool)
def Zef (h : Bm) (l : List Val) : Bm := (Zbh l).foldl (fun h n => Zgw BEq.beq n true h) h
theorem ZxH (h : Bm) (l : List Val) (v : Val) : Zef h (l ++ [v]) = (v.uses).foldl (fun h n => Zgw BEq.beq n true h) (Zef h l) := by
  unfold Zef
  rw [Zqf, List.foldl_append]
  simp [Zbh]
end Go.Tev
namespace Go.Tev.S1
open Go.Abs Go.Proofs
def YcW (l : List Val) (cs : Bm × Unit) : Option (Unit × (Bm × Unit)) := if Zak l ≤ B then some ((), (Zef cs.1 l, ())) else none
theorem ZrI {l : List Val} {h : Bm} (h1 : Zak l ≤ B) : YcW l (h, ()) = some ((), (Zef h l, ())) := if_pos h1
theorem ZzZ (l : List Val) (h : Bm) (k : Nat) (h1 : Zak l < k + 1) (h2 : Zak l ≤ B) : Zfa (fun v => some v.ref) Zm8 (fun a cs => if Zak a < k then YcW a cs else none) (l.length + 1) l h = some ((), (Zef h l, ())) := by
  have hB : B = 2 ^ 36 := rfl
  unfold Zfa
  refine (ZhT l (fun b => Zef h b) (fun b v => .inl (b ++ [v])) (fun b => some ((), (Zef h b, ()))) (fun i b => b = l.take i) ?_ ?_ ?_ [] rfl _ (Nat.lt_succ_self _)).trans ?_
  · intro i b v k' hv hlt hb
    subst hb
    have hmem := List.mem_of_getElem? hv
    have hs := ZeR hmem
    have hm1 := Zk0 hmem
    have hl := ZeH l
    have hi : IntKind.i64.wrap ((i : Int) + 1) = ((i + 1 : Nat) : Int) := Za7 (by omega)
    have hbel : ∀ g : Bm, (if Zak v.l < k then YcW v.l (g, ()) else none) = some ((), (Zef g v.l, ())) := fun g => (if_pos (by omega)).trans (ZrI (by omega))
    simp only [Zdx, Zbg hv, Option.bind_some, dlt hlt, cond_true, Val.eta, hi, Bool.cond_self, hbel, ZxH, Val.uses_eq, List.foldl_append]
    cases e1 : v.ref
    · simp only [cond_false, Bool.false_and, Bool.false_eq_true, if_false, List.foldl_nil]; rfl
    · simp only [cond_true, Bool.true_and, Option.bind_some, Zmc (show v.tot ≤ B by omega)]
      cases e2 : ((Zaw v.l).1 != [])
      · simp only [cond_false, Bool.false_eq_true, if_false, List.foldl_nil]; rfl
      · simp only [cond_true, if_true, List.foldl_cons, List.foldl_nil]; rfl
  · intro i b v b' hv hb hs
    cases hs
    rw [ZbG hv, hb]
  · intro b k' hb
    simp only [Zdx, Zpk, cond_false]
  · rw [Zdl (fun (b : List Val) (v : Val) => b ++ [v]), Zfz]
theorem Zrv {K : Zaa} (hK : Zcu K) : Zd9 U (Zab C K) 36 ⟨[.ty 22, .ref (.map 9 4)], [], YcW⟩ :=
  Zuq (U := U) (ak := [.ty 22, .ref (.map 9 4)]) (rts := []) Zak YcW fun k ih => Zit (kf hK 36 (by decide)) _ _ _ (Zsm hK) (Zsf hK) ih _ fun a cs r h => by
    by_cases h1 : Zak a < k + 1
    · have h2 : YcW a cs = some r := (if_pos h1).symm.trans h
      unfold YcW at h2
      by_cases h3 : Zak a ≤ B
      · rw [if_pos h3] at h2; cases h2; exact ⟨_, ZzZ a cs.1 k h1 h3⟩
      · rw [if_neg h3] at h2; cases h2
    · have h2 : none = some r := (if_neg h1).symm.trans h
      cases h2
noncomputable def ZjR (c : List Cus) : Option Bool := if ZhI c then ZfR Zqr Zms (c.length + 2) c else none
theorem Zym {K : Zaa} (hK : Zcu K) : Zaj U (Zab C K) 10 ⟨true, [.ty 23], [4], ZjR⟩ :=
  ZjL (kf hK 10 (by decide)) _ _ (Yct hK) (YaZ hK) _ fun a r h => by
    unfold ZjR at h
    split at h
    · exact ⟨_, h⟩
    · cases h
theorem ZrJ {c : List Cus} (h : ZhI c) : ∃ b, ZjR c = some b := by
  have hB : B = 2 ^ 36 := rfl
  have hV : V = 2 ^ 24 := rfl
  unfold ZjR
  rw [if_pos h]
  unfold ZfR ZoY
  have main : ∀ (r : List Cus) (i : Nat) (acc : Int) (fuel : Nat), c.drop i = r → i ≤ c.length → r.length + 1 < fuel → ∃ b, Zgu (fun y k_1 => ZcI Zqr Zms (c.length + 2) c (fun z1 z2 =>
      Option.bind (some (bif decide ((c.length : Int) > 70) then true else decide (z2 > 1500))) fun m3 => some m3) (fun z4 => some z4) y.1 y.2.1 y.2.2.1 fun a0 a1 a2 => k_1 (a0, a1, a2, ())) fuel (false, acc, (i : Int), ()) = some b := by
    intro r
    induction r with
    | nil =>
      intro i acc fuel hr hi hf
      obtain ⟨n, rfl⟩ : ∃ n, fuel = n + 1 := ⟨fuel - 1, by omega⟩
      have : i = c.length := by
        have := congrArg List.length hr
        simp at this; omega
      subst this
      simp only [Zgu, ZcI, Zpk, cond_false, Option.bind_some]
      exact ⟨_, rfl⟩
    | cons v r ih =>
      intro i acc fuel hr hi hf
      obtain ⟨n, rfl⟩ : ∃ n, fuel = n + 1 := ⟨fuel - 1, by omega⟩
      have hv : c[i]? = some v := by
        have := congrArg (fun x => x[0]?) hr
        simpa using this
      have hlt : i < c.length := (List.getElem?_eq_some_iff.1 hv).1
      have hr' : c.drop (i + 1) = r := by rw [← List.drop_drop, hr]; rfl
      have hvm := h.2 v (List.mem_of_getElem? hv)
      have hl := h.1
      have hi2 : IntKind.i64.wrap ((i : Int) + 1) = ((i + 1 : Nat) : Int) := Za7 (by omega)
      simp only [Zgu, ZcI, dlt hlt, cond_true, Option.bind_some, Zbg hv, ZwO (show Zak v.val ≤ B by omega), ZnY (show Zak v.val ≤ B by omega), hi2]
      cases decide ((i : Int) ≤ 70)
      · exact ⟨_, rfl⟩
      · simp only [cond_true]
        cases Zxk v.val
        · simp only [Bool.not_false, cond_true, cond_false, Option.bind_some]
          cases decide ((v.name.length : Int) > 100)
          · exact ih (i + 1) _ n hr' (by omega) (by simp at hf; omega)
          · exact ⟨_, rfl⟩
        · exact ⟨_, rfl⟩
  exact main c 0 0 (c.length + 2) rfl (Nat.zero_le _) (by omega)
end Go.Tev.S1
namespace Go.Tev
open Go.Abs
def ZrH (x : List UInt8) : List (List UInt8) → List (List UInt8)
  | [] => [x]
  | y :: r => if Op.bytesLess y x then y :: ZrH x r else if y == x then y :: r else x :: y :: r
def ZfJ (l : List (List UInt8)) : List (List UInt8) := l.foldl (fun o x => ZrH x o) []
theorem Ztr (x : List UInt8) : ∀ l, (ZrH x l).length ≤ l.length + 1
  | [] => Nat.le_refl _
  | y :: r => by
    have := Ztr x r
    unfold ZrH
    split
    · simp; omega
    · split <;> simp
end Go.Tev
namespace Go.Tev.S1
open Go.Abs Go.Proofs
theorem Zw2 (l : List (List UInt8)) : (ZfJ l).length ≤ l.length := by
  have : ∀ (l o : List (List UInt8)), (l.foldl (fun o x => ZrH x o) o).length ≤ o.length + l.length := by
    intro l
    induction l with
    | nil => intro o; simp
    | cons x l ih =>
      intro o
      have h1 := ih (ZrH x o)
      have h2 := Ztr x o
      simp only [List.foldl_cons, List.length_cons]
      omega
  simpa [ZfJ] using this l []
end Go.Tev.S1
