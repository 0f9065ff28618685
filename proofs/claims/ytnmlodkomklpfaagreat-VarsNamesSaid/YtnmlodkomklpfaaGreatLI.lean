/- A certified evaluator for the walked functions, and their contracts, for the laws of the variables. -/
import Derived.Test.YtnmlodkomklpfaaGreatLF
import Derived.Test.YtnmlodkomklpfaaGreatChecked
import Derived.KernelRfl
import Derived.Test.YtnmlodkomklpfaaGreatLH
set_option linter.unusedVariables false
set_option linter.unusedSimpArgs false
namespace Go.Abs
open Go.Proofs
def ann : FuncId → FA
  | 2 => ⟨1, [], [], [], [0], []⟩
  | 3 => ⟨84, [0, 1, 2, 6, 7, 8, 9, 10, 11, 12, 13, 33, 42], [], [], [14, 16, 19, 23, 27, 38, 52, 57, 63, 73], []⟩
  | 4 => ⟨118, [0, 1, 4, 5, 6, 7, 8, 9, 10, 11, 12, 13, 14, 15, 32, 40, 58, 62, 77, 89, 92, 101], [], [], [16, 18, 36, 46, 54, 71, 99, 106, 116], []⟩
  | 5 => ⟨342, [0, 1, 2, 3, 4, 5, 6, 7, 8, 9, 11, 13, 14, 15, 17, 19, 20, 21, 22, 23, 24, 26, 28, 30, 31, 32, 33, 34, 35, 36, 121, 137, 140], [], [], [37, 38, 39, 42, 44, 47, 116, 211, 51, 55, 59, 63, 67, 70, 74, 77, 80, 84, 88, 92, 96, 100, 104, 106, 108, 109, 111, 112, 114, 128, 135, 159, 165, 169, 173, 177, 180, 184, 187, 193, 197, 200, 204, 206, 208, 214, 221, 231, 235, 236, 240, 241, 272, 278, 285, 287, 296, 298, 312, 332], []⟩
  | 6 => ⟨100, [0, 2, 3, 4, 5, 6, 7, 8, 9, 16, 24, 34, 50, 61, 93], [], [], [10, 12, 20, 43, 46, 57, 67, 89, 97], []⟩
  | 7 => ⟨87, [0, 2, 3, 4, 5, 6, 7, 8, 9, 10, 11, 18, 26, 31, 36, 85], [], [], [12, 14, 22, 36, 43, 51, 56, 82], []⟩
  | 8 => ⟨39, [0, 1, 2, 3], [], [], [4, 7, 8, 9, 11, 15, 18, 22, 26, 34, 35, 37], []⟩
  | 9 => ⟨11, [0, 2], [], [], [4, 8], []⟩
  | 10 => ⟨45, [0, 2, 3, 4, 12, 29], [], [], [20, 36], []⟩
  | 11 => ⟨42, [0, 2, 3, 11, 15, 41], [], [], [9, 23, 31, 39], []⟩
  | 12 => ⟨24, [0, 1, 4, 5, 6, 7, 11, 16], [], [], [9, 14, 20, 21], [21]⟩
  | 13 => ⟨18, [0, 2, 3, 4, 5, 9], [], [], [7, 14, 16, 17], []⟩
  | 14 => ⟨5, [0, 2], [], [], [4], []⟩
  | 15 => ⟨42, [0, 1, 4, 5, 10, 14, 41], [], [], [39], []⟩
  | 16 => ⟨28, [0, 2, 3, 5, 6, 9, 12, 13, 14, 15, 16, 23], [], [], [11, 21, 27], []⟩
  | 17 => ⟨20, [0, 1, 4, 5, 9, 18], [], [], [], []⟩
  | 18 => ⟨42, [0, 1, 4, 5, 10, 14, 41], [], [], [39], []⟩
  | 19 => ⟨9, [0, 1, 4], [], [], [7], []⟩
  | 20 => ⟨24, [0, 1, 2, 6, 7, 8], [], [], [11, 13, 21, 22], []⟩
  | 21 => ⟨24, [0, 1, 2, 6, 7, 8], [], [], [11, 13], []⟩
  | 22 => ⟨35, [0, 2, 4, 12, 13, 14, 15, 16, 33], [], [], [10, 21, 26, 31], []⟩
  | 23 => ⟨18, [0, 2, 3, 5], [], [], [9, 14], []⟩
  | 24 => ⟨12, [0, 2, 3, 4, 8], [], [], [6, 11], []⟩
  | 25 => ⟨26, [0, 1, 4, 5, 10, 14, 25], [], [], [], []⟩
  | 26 => ⟨65, [0, 1, 4, 5, 6, 7, 8, 10, 11, 19, 37, 48, 57], [6], [], [31, 45], []⟩
  | 27 => ⟨47, [0, 1, 4, 5, 6, 15], [], [], [43], []⟩
  | 28 => ⟨29, [0, 2, 3, 4, 8, 18], [], [], [17, 25], []⟩
  | 29 => ⟨35, [0, 2, 3, 7, 34], [], [], [15], []⟩
  | 30 => ⟨13, [0, 2, 5, 9, 12], [], [], [4, 7, 11], []⟩
  | 31 => ⟨33, [0, 2, 3, 4, 8, 32], [], [], [22, 31], []⟩
  | 32 => ⟨37, [0, 2, 3, 4, 8], [], [], [33], []⟩
  | 33 => ⟨17, [0, 2, 3, 6, 10, 14], [], [], [5], []⟩
  | 34 => ⟨31, [0, 1, 4, 5, 6, 7, 8, 12, 15, 28], [], [], [11, 20, 24, 26], [11, 24]⟩
  | 35 => ⟨20, [0, 2, 3, 5, 7, 8, 9, 10], [], [], [], []⟩
  | 36 => ⟨32, [0, 1, 5, 6, 9, 10, 11, 12, 16, 24], [], [], [16, 19, 30], []⟩
  | 37 => ⟨9, [0, 2, 3], [], [], [5, 7], []⟩
  | 38 => ⟨4, [0, 1, 2], [], [1], [], []⟩
  | 39 => ⟨9, [0, 1, 4], [], [], [7], []⟩
  | 40 => ⟨19, [0, 1, 2], [], [], [11, 17], []⟩
  | 41 => ⟨30, [0, 2, 3, 4, 5, 8, 9, 10, 11, 20], [], [], [], []⟩
  | 42 => ⟨25, [0, 2, 3, 5, 6, 7, 8, 9, 21], [], [], [14], []⟩
  | 43 => ⟨118, [0, 2, 3, 4, 5, 6, 7, 9, 11, 12, 13, 14, 16, 17, 18, 19, 21, 22, 23, 30, 32, 36, 39, 40, 41, 42, 53, 60, 62, 71, 72, 89, 95, 96, 97, 98, 108], [19], [], [25, 28, 58, 80, 87], [80]⟩
  | 44 => ⟨30, [0, 2, 3, 5, 6, 7, 8, 9], [], [], [25], []⟩
  | 45 => ⟨25, [0, 2, 3, 4, 5, 6, 14, 23], [], [], [10, 18], []⟩
  | 46 => ⟨21, [0, 2, 3, 4, 5, 8, 15, 19], [], [], [11, 17], []⟩
  | 47 => ⟨11, [0, 2, 3, 4, 6, 9], [], [], [], []⟩
  | 48 => ⟨16, [0, 2], [], [], [], []⟩
  | 49 => ⟨43, [0, 2, 3, 4, 5, 9, 28], [3], [], [26, 35], []⟩
  | 50 => ⟨59, [0, 1, 4, 5, 6, 10, 58], [], [], [19, 55], []⟩
  | 51 => ⟨33, [0, 2, 3, 4, 10, 24], [], [], [], []⟩
  | 52 => ⟨71, [0, 1, 4, 5, 7, 8, 9, 10, 11, 12, 13, 42, 45], [], [], [23, 49], []⟩
  | 53 => ⟨67, [0, 1, 4, 5, 7, 8, 9, 10, 11, 12, 13, 14, 15, 16, 17, 22, 51, 55, 61], [], [], [21, 38, 41, 54, 59], [38, 59]⟩
  | 54 => ⟨53, [0, 1, 4, 5, 7, 8, 9, 11, 12, 13, 14, 15, 16, 21, 44], [5], [], [20, 28, 34, 49], [28, 49]⟩
  | 55 => ⟨34, [0, 1, 2, 3], [], [], [], []⟩
  | 56 => ⟨54, [0, 1, 2, 3, 4, 5, 6, 29, 38, 43], [], [], [9, 27, 37, 53], []⟩
  | 57 => ⟨5, [0, 2], [], [], [4], []⟩
  | 58 => ⟨11, [0, 2], [], [], [9, 10], []⟩
  | 59 => ⟨14, [0, 1, 3, 5, 7, 13], [], [], [12], []⟩
  | 60 => ⟨19, [0, 1, 4, 5, 7, 8, 9, 16], [], [], [16], []⟩
  | 61 => ⟨15, [0, 2], [], [], [4], []⟩
  | 62 => ⟨52, [0, 2, 3, 5, 6, 8, 9, 10, 12, 13, 14, 15, 31, 32, 33, 34], [], [3, 9, 10], [28, 42], []⟩
  | 63 => ⟨9, [0, 2, 3, 6], [], [], [8], []⟩
  | 64 => ⟨36, [0, 2, 3, 4, 5, 6, 7, 8, 14], [4, 5], [], [10, 18, 33], []⟩
  | 65 => ⟨14, [0, 2, 3, 4, 5], [], [], [8], []⟩
  | 66 => ⟨12, [0, 2, 3, 4, 6], [], [], [], []⟩
  | 67 => ⟨17, [0, 2, 13], [], [], [], []⟩
  | 68 => ⟨25, [0, 2, 18], [], [], [4], []⟩
  | 69 => ⟨13, [0, 1, 2, 4, 5, 6, 7], [], [], [], []⟩
  | 70 => ⟨134, [0, 1, 2, 3, 8, 9, 10, 11, 12, 13, 14, 15, 16, 17, 18, 23, 29, 35, 50, 68, 72, 87, 113], [], [], [27, 33, 39, 46, 54, 72, 85, 92, 99, 121, 132], []⟩
  | 71 => ⟨8, [0, 2], [], [], [5, 7], []⟩
  | 72 => ⟨8, [0, 1, 4], [], [], [7], []⟩
  | 73 => ⟨29, [0, 1, 2, 3, 5, 9, 11, 23], [], [], [28], []⟩
  | 74 => ⟨46, [0, 2, 3, 4, 5, 9, 27, 33, 35], [], [], [], []⟩
  | 75 => ⟨28, [0, 1, 4, 7, 19], [], [], [7, 17], []⟩
  | 76 => ⟨138, [0, 1, 4, 5, 6, 7, 8, 9, 10, 14, 21, 33, 70, 79, 86, 93, 112, 121], [], [], [16, 20, 30, 47, 53, 60, 67, 73, 76, 82, 89, 100, 106, 115, 118, 123, 126], []⟩
  | 77 => ⟨67, [0, 1, 2, 3, 8, 9, 10, 11, 12, 29, 42, 44, 56], [10], [], [40, 51], []⟩
  | 78 => ⟨49, [0, 1, 2, 6, 7, 12, 30], [], [], [29], []⟩
  | 79 => ⟨56, [0, 1, 2, 6, 7, 8, 9, 10, 19, 30], [], [], [26, 55], []⟩
  | 80 => ⟨65, [0, 1, 2, 6, 7, 8, 9, 10, 15, 33, 43], [], [7], [19, 36], []⟩
  | 81 => ⟨57, [0, 1, 2, 6, 7, 8, 9, 10, 11, 12, 32, 34, 49, 51, 54], [], [9], [37, 40, 43, 48], []⟩
  | 82 => ⟨32, [0, 1, 2, 6, 7, 13], [], [], [], []⟩
  | 83 => ⟨133, [0, 1, 2, 6, 7, 8, 9, 10, 14, 32, 37, 41, 61, 65, 78, 98, 103, 116], [], [], [30, 77, 115], []⟩
  | 84 => ⟨17, [0, 1, 4], [], [], [6, 9], []⟩
  | 85 => ⟨84, [0, 1, 2, 3, 8, 9, 10, 43, 59, 64], [], [], [41, 58], []⟩
  | 86 => ⟨168, [0, 1, 2, 3, 8, 9, 10, 11, 43, 60, 65, 112, 129, 134], [], [], [42, 58, 111, 127], []⟩
  | 87 => ⟨19, [0, 2, 4, 8], [], [], [], []⟩
  | 88 => ⟨25, [0, 2, 4, 8, 14], [], [], [], []⟩
  | 89 => ⟨18, [0, 1, 4], [], [], [], []⟩
  | 90 => ⟨25, [0, 1, 2, 6], [], [], [], []⟩
  | 91 => ⟨13, [0, 2], [], [], [], []⟩
  | 92 => ⟨12, [0, 1, 4, 8], [], [], [7, 8], []⟩
  | 93 => ⟨94, [0, 1, 4, 5, 6, 7, 8, 9, 19, 31, 40, 47, 61, 75], [], [], [83], []⟩
  | 94 => ⟨13, [0, 2], [], [], [4, 7], []⟩
  | 95 => ⟨16, [0, 1, 4], [], [], [7, 13], []⟩
  | 96 => ⟨49, [0, 1, 4, 5, 6, 7, 8, 18, 36], [], [], [17, 35, 40], []⟩
  | 97 => ⟨36, [0, 1, 4, 8], [], [], [7, 12, 13, 18, 25, 29, 30, 34], []⟩
  | 98 => ⟨27, [0, 1, 4, 5, 14, 20], [], [], [8, 19, 25, 26], []⟩
  | 99 => ⟨43, [0, 1, 4, 5, 6, 7, 8, 24, 36], [], [], [12, 19, 24, 29, 35], []⟩
  | 100 => ⟨46, [0, 1, 4, 5, 6, 7, 8, 18, 23, 35], [], [], [12, 17, 23, 28, 29, 39], []⟩
  | 101 => ⟨22, [0, 2, 3, 4, 6, 8, 10, 12, 14, 16, 18, 20], [], [], [], []⟩
  | 102 => ⟨76, [0, 1, 2, 3, 8, 9, 16, 36, 52], [], [], [35, 51], []⟩
  | 103 => ⟨7, [0, 2], [], [], [5], []⟩
  | 104 => ⟨33, [0, 2], [], [], [], []⟩
  | 105 => ⟨15, [0, 1, 2, 6], [], [], [14], []⟩
  | 106 => ⟨36, [0, 1, 2, 3, 4, 10], [], [], [16, 24, 32], []⟩
  | 107 => ⟨6, [0, 2], [], [], [], []⟩
  | 108 => ⟨12, [0, 1, 4, 8], [], [], [], []⟩
  | 109 => ⟨64, [0, 1, 4, 5, 6, 7, 13, 20, 45, 58], [], [], [14, 19, 43, 51, 57, 58, 62], []⟩
  | 110 => ⟨20, [0, 2, 3], [], [], [5], []⟩
  | 111 => ⟨9, [0, 2], [], [], [], []⟩
  | 112 => ⟨71, [0, 1, 4, 5, 6, 7, 8, 9, 10, 19, 35, 48, 59, 65], [], [], [13, 24, 27, 33, 34, 39, 42, 53, 64, 65, 68], []⟩
  | 113 => ⟨138, [0, 2, 3, 4, 5, 6, 7, 8, 9, 10, 19, 25, 38, 44, 59, 72, 78, 90, 107, 128, 134], [], [], [24, 25, 37, 43, 44], []⟩
  | 114 => ⟨10, [0, 1, 4], [], [], [6, 8], []⟩
  | 115 => ⟨110, [0, 1, 4, 5, 6, 7, 8, 9, 23, 38, 53, 59, 89], [], [], [13, 40, 43, 56, 72, 80, 86, 95], []⟩
  | 116 => ⟨28, [0, 1, 2, 3, 8, 9, 18], [], [], [18], []⟩
  | 117 => ⟨3, [0], [], [], [], []⟩
  | 118 => ⟨20, [0, 2, 4, 15], [], [], [4, 9], []⟩
  | 119 => ⟨73, [0, 2, 16, 19, 25, 37], [], [], [17], []⟩
  | 120 => ⟨13, [0, 2, 8], [], [], [], []⟩
  | 121 => ⟨12, [0, 1, 4, 8], [], [], [7, 8], []⟩
  | 122 => ⟨23, [0, 2, 3, 4, 10], [], [], [19], []⟩
  | 123 => ⟨33, [0, 1, 4, 5, 15, 18], [], [], [18, 22], []⟩
  | 124 => ⟨21, [0, 2], [], [], [], []⟩
  | _ => ⟨0, [], [], [], [], []⟩
theorem A13 : (ann 13).nt = 18 ∧ (ann 13).keep = [0, 2, 3, 4, 5, 9] ∧ (ann 13).take = [] ∧ (ann 13).heapy = [] ∧ (ann 13).frz = [7, 14, 16, 17] ∧ (ann 13).lend = [] := ⟨rfl, rfl, rfl, rfl, rfl, rfl⟩
theorem A38 : (ann 38).nt = 4 ∧ (ann 38).keep = [0, 1, 2] ∧ (ann 38).take = [] ∧ (ann 38).heapy = [1] ∧ (ann 38).frz = [] ∧ (ann 38).lend = [] := ⟨rfl, rfl, rfl, rfl, rfl, rfl⟩
noncomputable def C : Ctx := ⟨Tryz.prog, ann⟩
def Zde (K : Zaa) : Prop := ∀ (f : Nat) a h, f ∉ [8, 26, 37, 43, 62, 73] → K f a h = none
theorem Zgw : C.ann = ann := rfl
theorem Zgs (a b : Nat) : Nat.beq a b = (a == b) := by rw [Bool.eq_iff_iff]; simp [Nat.beq_eq]
theorem Zgt (a b : Nat) : Nat.ble a b = decide (a ≤ b) := by rw [Bool.eq_iff_iff]; simp [Nat.ble_eq]
theorem Zgx (a b : Nat) : Nat.blt a b = decide (a < b) := by rw [Bool.eq_iff_iff]; simp [Nat.blt_eq]
theorem Zts {i n : Nat} (h : i < n) : idx (i : Int) n = some i := by unfold idx; rw [if_pos ⟨by omega, by omega⟩]; simp
end Go.Abs
namespace Go.Tev.S1
open Go.Abs Go.Proofs
theorem hC (t : Nat) (h : (U.cells t).isSome = true) : C.isAgg t = some (isT t) := by
  by_cases h2 : t = 2
  · subst h2; kernel_rfl
  by_cases h3 : t = 3
  · subst h3; kernel_rfl
  by_cases h4 : t = 4
  · subst h4; kernel_rfl
  by_cases h5 : t = 5
  · subst h5; kernel_rfl
  by_cases h9 : t = 9
  · subst h9; kernel_rfl
  by_cases h22 : t = 22
  · subst h22; kernel_rfl
  by_cases h23 : t = 23
  · subst h23; kernel_rfl
  by_cases h28 : t = 28
  · subst h28; kernel_rfl
  by_cases h31 : t = 31
  · subst h31; kernel_rfl
  by_cases h39 : t = 39
  · subst h39; kernel_rfl
  by_cases h46 : t = 46
  · subst h46; kernel_rfl
  by_cases h49 : t = 49
  · subst h49; kernel_rfl
  by_cases h51 : t = 51
  · subst h51; kernel_rfl
  by_cases h60 : t = 60
  · subst h60; kernel_rfl
  by_cases h62 : t = 62
  · subst h62; kernel_rfl
  by_cases h72 : t = 72
  · subst h72; kernel_rfl
  by_cases h77 : t = 77
  · subst h77; kernel_rfl
  by_cases h78 : t = 78
  · subst h78; kernel_rfl
  by_cases h84 : t = 84
  · subst h84; kernel_rfl
  by_cases h92 : t = 92
  · subst h92; kernel_rfl
  by_cases h107 : t = 107
  · subst h107; kernel_rfl
  change (cells t).isSome = true at h
  unfold cells at h
  split at h <;> first | (exfalso; contradiction) | (cases h; done)
theorem hZ (t : Nat) (cs : List (TV U.X)) (h : U.zcells t = some cs) : ∃ z, C.zero t = some z ∧ dvL U cs = some z.cells ∧ z.cellOk = true ∧ (C.isAgg t = some true → z = .agg z.cells) := by
  by_cases h2 : t = 2
  · subst h2; cases h; exact ⟨.int .i64 0, by kernel_rfl, rfl, rfl, fun h => by rw [hC 2 rfl] at h; cases h⟩
  by_cases h3 : t = 3
  · subst h3; cases h; exact ⟨.int .i64 0, by kernel_rfl, rfl, rfl, fun h => by rw [hC 3 rfl] at h; cases h⟩
  by_cases h4 : t = 4
  · subst h4; cases h; exact ⟨.bool false, by kernel_rfl, rfl, rfl, fun h => by rw [hC 4 rfl] at h; cases h⟩
  by_cases h5 : t = 5
  · subst h5; cases h; exact ⟨.int .u8 0, by kernel_rfl, rfl, rfl, fun h => by rw [hC 5 rfl] at h; cases h⟩
  by_cases h9 : t = 9
  · subst h9; cases h; exact ⟨.str [], by kernel_rfl, rfl, rfl, fun h => by rw [hC 9 rfl] at h; cases h⟩
  by_cases h22 : t = 22
  · subst h22; cases h; exact ⟨.slc [], by kernel_rfl, rfl, rfl, fun h => by rw [hC 22 rfl] at h; cases h⟩
  by_cases h23 : t = 23
  · subst h23; cases h; exact ⟨.slc [], by kernel_rfl, rfl, rfl, fun h => by rw [hC 23 rfl] at h; cases h⟩
  by_cases h28 : t = 28
  · subst h28; cases h; exact ⟨.int .i64 0, by kernel_rfl, rfl, rfl, fun h => by rw [hC 28 rfl] at h; cases h⟩
  by_cases h31 : t = 31
  · subst h31; cases h; exact ⟨.slc [], by kernel_rfl, rfl, rfl, fun h => by rw [hC 31 rfl] at h; cases h⟩
  by_cases h39 : t = 39
  · subst h39; cases h; exact ⟨.agg [.str [], .slc []], by kernel_rfl, rfl, rfl, fun h => rfl⟩
  by_cases h46 : t = 46
  · subst h46; cases h; exact ⟨.slc [], by kernel_rfl, rfl, rfl, fun h => by rw [hC 46 rfl] at h; cases h⟩
  by_cases h49 : t = 49
  · subst h49; cases h; exact ⟨.agg [.int .u8 0, .str [], .int .i64 0, .str [], .bool false], by kernel_rfl, rfl, rfl, fun h => rfl⟩
  by_cases h51 : t = 51
  · subst h51; cases h; exact ⟨.agg [.int .u8 0, .str [], .int .i64 0, .str [], .bool false, .slc []], by kernel_rfl, rfl, rfl, fun h => rfl⟩
  by_cases h60 : t = 60
  · subst h60; cases h; exact ⟨.nilm, by kernel_rfl, rfl, rfl, fun h => by rw [hC 60 rfl] at h; cases h⟩
  by_cases h62 : t = 62
  · subst h62; cases h; exact ⟨.nilm, by kernel_rfl, rfl, rfl, fun h => by rw [hC 62 rfl] at h; cases h⟩
  by_cases h72 : t = 72
  · subst h72; cases h; exact ⟨.slc [], by kernel_rfl, rfl, rfl, fun h => by rw [hC 72 rfl] at h; cases h⟩
  by_cases h77 : t = 77
  · subst h77; cases h; exact ⟨.slc [], by kernel_rfl, rfl, rfl, fun h => by rw [hC 77 rfl] at h; cases h⟩
  by_cases h78 : t = 78
  · subst h78; cases h; exact ⟨.slc [], by kernel_rfl, rfl, rfl, fun h => by rw [hC 78 rfl] at h; cases h⟩
  by_cases h84 : t = 84
  · subst h84; cases h; exact ⟨.agg [.int .i64 0, .int .i64 0, .bool false], by kernel_rfl, rfl, rfl, fun h => rfl⟩
  by_cases h92 : t = 92
  · subst h92; cases h; exact ⟨.slc [], by kernel_rfl, rfl, rfl, fun h => by rw [hC 92 rfl] at h; cases h⟩
  by_cases h107 : t = 107
  · subst h107; cases h; exact ⟨.nilm, by kernel_rfl, rfl, rfl, fun h => by rw [hC 107 rfl] at h; cases h⟩
  change zcells t = some cs at h
  unfold zcells at h
  split at h <;> first | (exfalso; contradiction) | (cases h; done)
theorem hD (t : Nat) (h : U.dok t = true) : C.zero t = some (U.enc t (U.dflt t)) := by
  by_cases h2 : t = 2
  · subst h2; first | (cases h; done) | kernel_rfl
  by_cases h3 : t = 3
  · subst h3; first | (cases h; done) | kernel_rfl
  by_cases h4 : t = 4
  · subst h4; first | (cases h; done) | kernel_rfl
  by_cases h5 : t = 5
  · subst h5; first | (cases h; done) | kernel_rfl
  by_cases h9 : t = 9
  · subst h9; first | (cases h; done) | kernel_rfl
  by_cases h22 : t = 22
  · subst h22; first | (cases h; done) | kernel_rfl
  by_cases h23 : t = 23
  · subst h23; first | (cases h; done) | kernel_rfl
  by_cases h28 : t = 28
  · subst h28; first | (cases h; done) | kernel_rfl
  by_cases h31 : t = 31
  · subst h31; first | (cases h; done) | kernel_rfl
  by_cases h39 : t = 39
  · subst h39; first | (cases h; done) | kernel_rfl
  by_cases h46 : t = 46
  · subst h46; first | (cases h; done) | kernel_rfl
  by_cases h49 : t = 49
  · subst h49; first | (cases h; done) | kernel_rfl
  by_cases h51 : t = 51
  · subst h51; first | (cases h; done) | kernel_rfl
  by_cases h60 : t = 60
  · subst h60; first | (cases h; done) | kernel_rfl
  by_cases h62 : t = 62
  · subst h62; first | (cases h; done) | kernel_rfl
  by_cases h72 : t = 72
  · subst h72; first | (cases h; done) | kernel_rfl
  by_cases h77 : t = 77
  · subst h77; first | (cases h; done) | kernel_rfl
  by_cases h78 : t = 78
  · subst h78; first | (cases h; done) | kernel_rfl
  by_cases h84 : t = 84
  · subst h84; first | (cases h; done) | kernel_rfl
  by_cases h92 : t = 92
  · subst h92; first | (cases h; done) | kernel_rfl
  by_cases h107 : t = 107
  · subst h107; first | (cases h; done) | kernel_rfl
  change (tyB t).dok = true at h
  unfold tyB at h
  split at h <;> first | (exfalso; contradiction) | (cases h; done)
theorem hE (t : Nat) (f : U.X t → U.X t → Bool) (h : U.eqT t = some f) : C.P.eqGuardType C.P.depth t = false ∧ ∀ a b, U.enc t a = .agg (U.enc t a).cells ∧ Zmw C 100 t (U.enc t a) (U.enc t b) = some (f a b) := by
  by_cases h49 : t = 49
  · subst h49; cases h; refine ⟨by kernel_rfl, fun a b => ⟨rfl, ?_⟩⟩
    have key : ∀ b0 b1 b2 b3 b4 : Bool, (bif b0 then bif b1 then bif b2 then bif b3 then bif b4 then some true else some false else some false else some false else some false else some false) = some (b0 && b1 && b2 && b3 && b4) := by decide
    exact (show _ = _ by kernel_rfl : Zmw C 100 49 (U.enc 49 a) (U.enc 49 b) = (bif (a : Tok).k == (b : Tok).k then bif (a : Tok).t == (b : Tok).t then bif (a : Tok).n == (b : Tok).n then bif (a : Tok).u == (b : Tok).u then bif (a : Tok).f == (b : Tok).f then some true else some false else some false else some false else some false else some false)).trans (key _ _ _ _ _)
  by_cases h84 : t = 84
  · subst h84; cases h; refine ⟨by kernel_rfl, fun a b => ⟨rfl, ?_⟩⟩
    have key : ∀ b0 b1 b2 : Bool, (bif b0 then bif b1 then bif b2 then some true else some false else some false else some false) = some (b0 && b1 && b2) := by decide
    exact (show _ = _ by kernel_rfl : Zmw C 100 84 (U.enc 84 a) (U.enc 84 b) = (bif (a : Fnd).d == (b : Fnd).d then bif (a : Fnd).t == (b : Fnd).t then bif (a : Fnd).b == (b : Fnd).b then some true else some false else some false else some false)).trans (key _ _ _)
  change eqT t = some f at h
  unfold eqT at h
  split at h <;> first | (exfalso; contradiction) | (cases h; done)
theorem ok : U.Ok C where
  inj := Ydj
  prj := Ydi
  pack := Yca
  cells := ZyM
  csz := Yd0
  ok := YfR
  noagg := ZyX C hC
  agg := Yc8 C hC
  zcells := hZ
  dok := hD
  keq := Ydv
  noMap := Zzs
  eqT := hE
  bytes := ZxK
end Go.Tev.S1
namespace Go.Tev.S1
open Go.Abs Go.Proofs
abbrev T1a : Type := Int → Option Int
abbrev T1b : Type := (List Val) × Int → Option Fnd
abbrev T1g : Type := (List Val) × (List Val) → Option Bool
abbrev T1h : Type := (List UInt8) × (List UInt8) → Option Bool
abbrev P1a (K : Zaa) (t : T1a) : Prop := ZaC U (Zac C K) 66 ⟨true, [.ty 5], [5], t⟩
abbrev P1b (K : Zaa) (t : T1b) : Prop := ZaC U (Zac C K) 52 ⟨true, [.ty 22, .ty 5], [84], t⟩
abbrev P1h (K : Zaa) (t : T1g) : Prop := ZaC U (Zac C K) 15 ⟨true, [.ty 22, .ty 22], [4], t⟩
abbrev P1i (K : Zaa) (t : T1h) : Prop := ZaC U (Zac C K) 89 ⟨true, [.ty 9, .ty 9], [4], t⟩
abbrev P1j (K : Zaa) (t : T1h) : Prop := ZaC U (Zac C K) 72 ⟨true, [.ty 9, .ty 9], [4], t⟩
def ZfE (n : Nat) (p0 : Int) : Option Int :=
  cond (p0 == (2 : Int))
  (some (22 : Int))
  (Option.bind (some (cond (p0 == (21 : Int)) (p0 == (21 : Int)) (p0 == (23 : Int)))) fun m1 =>
  Option.bind (some (cond (p0 == (19 : Int)) (p0 == (19 : Int)) m1)) fun m2 =>
  cond m2
  (some (IntKind.u8.wrap (p0 + (1 : Int))))
  (some (0 : Int)))
abbrev Zn3 : List (Nat × TCall X) := []
noncomputable abbrev Zeu : Cx := ⟨C, U, Zn3 , [], fun _ => []⟩
theorem Zmk : okF (C.ann 66) Tryz.f66 1 = true := by kernel_rfl
noncomputable abbrev Zgi (n : Nat) : ZfY (Zeu ) (PX X [5]) := []
theorem Zog (n : Nat) : ∀ a, fnL (Zeu ) true 66 Tryz.f66 [.ty 5] [5] (Zgi n) a = ZfE n a := by
  intro a
  kernel_rfl
theorem Zmo {K : Zaa} : CallsOk (Zeu ) (Zac C K) :=
  ⟨Zbc, Zbb⟩
theorem ZjF {K : Zaa} (hK : ∀ args h, K 66 args h = none) (t : PX X (AK.tys [.ty 5]) → Option (PX X [5])) (h : ∀ a r, t a = some r → ∃ n, ZfE n a = some r) : ZaC U (Zac C K) 66 ⟨true, [.ty 5], [5], t⟩ := by
  refine ZaY (x := Zeu ) (ak := [.ty 5]) (rts := [5]) (dir := true) ok (Zmo ) hK Tryz.func66 Zmk fun a r hr => ?_
  obtain ⟨n, hn⟩ := h a r hr
  exact ⟨n, Zgi n, (ZaR (show ZaD 0 (Zad Tryz.f66) = [] by kernel_rfl)), (Zog n a).trans hn⟩
def Zfb (qa : T1a) (qb : T1b) {R : Type} (n : Nat) (a1 : Int) (a10 : List Val) (a11 : Int) (kx0 : (Int × Int × Bool) → (Int × Int × Bool) → Option R) (y4 : Int × Int × Bool) (y5 : Int × Int × Bool) (y12 : Int) (k : (Int × Int × Bool) → (Int × Int × Bool) → Int → Option R) : Option R :=
  cond (decide (y12 < a11))
  (Option.bind (ZfX a10 y12) fun x3 =>
  Option.bind (qa x3.tok.k) fun r4 =>
  Option.bind (some (cond (a1 != (0 : Int)) (x3.tok.k == a1) false)) fun m5 =>
  Option.bind (cond (!m5) (some (cond (r4 == (0 : Int)) (decide ((x3.l.length : Int) > (0 : Int))) false)) (some (decide ((x3.l.length : Int) > (0 : Int))))) fun m6 =>
  Option.bind (some (cond m5 true m6)) fun m7 =>
  Option.bind (some (cond m7 y4.1 y4.1)) fun m8 =>
  Option.bind (some (cond m7 y4.2.1 y4.2.1)) fun m9 =>
  Option.bind (some (cond m7 y4.2.2 y4.2.2)) fun m10 =>
  Option.bind (some (cond m7 y5.1 y5.1)) fun m11 =>
  Option.bind (some (cond m7 (IntKind.i64.wrap (y5.2.1 + (1 : Int))) (IntKind.i64.wrap (y5.2.1 + (1 : Int))))) fun m12 =>
  Option.bind (some (cond m7 true y5.2.2)) fun m13 =>
  Option.bind (some (cond m7 x3.tok.k x3.tok.k)) fun m14 =>
  Option.bind (some (cond m7 x3.tok.t x3.tok.t)) fun m15 =>
  Option.bind (some (cond m7 x3.tok.n x3.tok.n)) fun m16 =>
  Option.bind (some (cond m7 x3.tok.u x3.tok.u)) fun m17 =>
  Option.bind (some (cond m7 x3.tok.f x3.tok.f)) fun m18 =>
  Option.bind (some (cond m7 x3.l x3.l)) fun m19 =>
  cond (r4 == (0 : Int))
  (k (m8, m9, m10) (m11, m12, m13) (IntKind.i64.wrap (y12 + (1 : Int))))
  (Option.bind (qb (m19, r4)) fun r20 =>
  Option.bind (some (cond m13 true r20.b)) fun m21 =>
  k (m8, m9, m10) ((if IntKind.i64.wrap (r20.d + (1 : Int)) > m11 then IntKind.i64.wrap (r20.d + (1 : Int)) else m11), IntKind.i64.wrap ((IntKind.i64.wrap (m12 + r20.t)) + (1 : Int)), m21) (IntKind.i64.wrap (y12 + (1 : Int)))))
  (kx0 (y4.1, y4.2.1, y4.2.2) (y5.1, y5.2.1, y5.2.2))
def ZiJ (qa : T1a) (qb : T1b) (n : Nat) (p0 : List Val) (p1 : Int) : Option Fnd :=
  ZqY (Zfb qa qb n p1 p0 (p0.length : Int) (fun z1 z2 =>
  some (Fnd.mk z2.1 z2.2.1 z2.2.2))) n ((0 : Int), (0 : Int), false) ((0 : Int), (0 : Int), false) (0 : Int)
abbrev Zrc (qa : T1a) (qb : T1b) : List (Nat × TCall X) := [(66, ⟨true, [.ty 5], [5], qa⟩), (52, ⟨true, [.ty 22, .ty 5], [84], qb⟩)]
noncomputable abbrev Zdh (qa : T1a) (qb : T1b) : Cx := ⟨C, U, Zrc qa qb, [], fun _ => []⟩
theorem Zo5 : okF (C.ann 52) Tryz.f52 2 = true := by kernel_rfl
abbrev nest_look_L0_D : LD := ⟨0, [.val 1 5, .val 10 22, .val 11 2], [.box 4 [2, 2, 4], .box 5 [2, 2, 4], .val 12 2], [(0, [.box 4 [2, 2, 4], .box 5 [2, 2, 4]])], []⟩
abbrev Zd1 (qa : T1a) (qb : T1b) (n : Nat) : LG U (PX X [84]) nest_look_L0_D := fun c kx kr y k => Zfb qa qb n c.1 c.2.1 c.2.2.1 (fun z0 z1 => kx 0 (z0, z1, ())) y.1 y.2.1 y.2.2.1 (fun z0 z1 z2 => k (z0, z1, z2, ()))
noncomputable abbrev Zeb (qa : T1a) (qb : T1b) (n : Nat) : ZfY (Zdh qa qb) (PX X [84]) := [(0, Zgy U nest_look_L0_D (Zd1 qa qb n) n)]
theorem Zmt (qa : T1a) (qb : T1b) (n : Nat) : ∀ c kx kr y k1, evL (Zdh qa qb) (ann 52) (Zeb qa qb n) 0 (ZaH (Zad Tryz.f52) 0) (Zfx U nest_look_L0_D kx kr k1) (encS U nest_look_L0_D.cap nest_look_L0_D.din c y) = Zd1 qa qb n c (fun i z => kx i c z) kr y (fun y2 => k1 c y2) := by
  intro c kx kr y k1
  kernel_rfl
theorem ZrG (qa : T1a) (qb : T1b) (n : Nat) : ∀ a, fnL (Zdh qa qb) true 52 Tryz.f52 [.ty 22, .ty 5] [84] (Zeb qa qb n) a = ZiJ qa qb n a.1 a.2 := by
  intro a
  kernel_rfl
theorem ZjQ {K : Zaa} (qa : T1a) (qb : T1b) (h0 : P1a K qa) (h1 : P1b K qb) : CallsOk (Zdh qa qb) (Zac C K) :=
  ⟨(Zap h0 (Zap h1 Zbc)), Zbb⟩
theorem Zkc {K : Zaa} (qa : T1a) (qb : T1b) (h0 : P1a K qa) (h1 : P1b K qb) (n : Nat) (b0 : Base) (bn0 : b0.nr ≤ 0) : Law (Zdh qa qb) b0 (Zac C K) (ann 52) n (ZaH (Zad Tryz.f52) 0) (Zgy U nest_look_L0_D (Zd1 qa qb n) n) :=
  Zen (x := Zdh qa qb) (id := 0) ok (ZjQ qa qb h0 h1) (sums := Zeb qa qb n) (ZaR (show ZaD 0 (ZaH (Zad Tryz.f52) 0) = [] by kernel_rfl)) nest_look_L0_D bn0 (Zd1 qa qb n) (Zmt qa qb n)
theorem ZlA {K : Zaa} (hK : ∀ args h, K 52 args h = none) (qa : T1a) (qb : T1b) (h0 : P1a K qa) (h1 : P1b K qb) (t : PX X (AK.tys [.ty 22, .ty 5]) → Option (PX X [84])) (h : ∀ a r, t a = some r → ∃ n, ZiJ qa qb n a.1 a.2 = some r) : ZaC U (Zac C K) 52 ⟨true, [.ty 22, .ty 5], [84], t⟩ := by
  refine ZaY (x := Zdh qa qb) (ak := [.ty 22, .ty 5]) (rts := [84]) (dir := true) ok (ZjQ qa qb h0 h1) hK Tryz.func52 Zo5 fun a r hr => ?_
  obtain ⟨n, hn⟩ := h a r hr
  exact ⟨n, Zeb qa qb n, (Zci (ids := [0]) (by kernel_rfl) (by decide) (fun i hi => by
    simp only [List.mem_cons, List.not_mem_nil, or_false] at hi
    rcases hi with rfl
    · exact Zch (c2 := ZaH (Zad Tryz.f52) 0) (by kernel_rfl) (by kernel_rfl) (Zkc qa qb h0 h1 _ _ (Nat.le_refl _))
    )), (ZrG qa qb n a).trans hn⟩
def Zhr (qb : T1b) (n : Nat) (p0 : List Val) : Option Int :=
  Option.bind (qb (p0, (0 : Int))) fun r1 =>
  cond (decide (r1.d > (16 : Int)))
  (some (20 : Int))
  (cond (decide (r1.t > (1500 : Int)))
  (some (4 : Int))
  (cond r1.b
  (some (8 : Int))
  (some (0 : Int))))
abbrev Zpu (qb : T1b) : List (Nat × TCall X) := [(52, ⟨true, [.ty 22, .ty 5], [84], qb⟩)]
noncomputable abbrev Ze3 (qb : T1b) : Cx := ⟨C, U, Zpu qb, [], fun _ => []⟩
theorem Zoc : okF (C.ann 33) Tryz.f33 1 = true := by kernel_rfl
noncomputable abbrev ZgC (qb : T1b) (n : Nat) : ZfY (Ze3 qb) (PX X [28]) := []
theorem ZqC (qb : T1b) (n : Nat) : ∀ a, fnL (Ze3 qb) true 33 Tryz.f33 [.ty 22] [28] (ZgC qb n) a = Zhr qb n a := by
  intro a
  kernel_rfl
theorem ZnZ {K : Zaa} (qb : T1b) (h0 : P1b K qb) : CallsOk (Ze3 qb) (Zac C K) :=
  ⟨(Zap h0 Zbc), Zbb⟩
theorem Zka {K : Zaa} (hK : ∀ args h, K 33 args h = none) (qb : T1b) (h0 : P1b K qb) (t : PX X (AK.tys [.ty 22]) → Option (PX X [28])) (h : ∀ a r, t a = some r → ∃ n, Zhr qb n a = some r) : ZaC U (Zac C K) 33 ⟨true, [.ty 22], [28], t⟩ := by
  refine ZaY (x := Ze3 qb) (ak := [.ty 22]) (rts := [28]) (dir := true) ok (ZnZ qb h0) hK Tryz.func33 Zoc fun a r hr => ?_
  obtain ⟨n, hn⟩ := h a r hr
  exact ⟨n, ZgC qb n, (ZaR (show ZaD 0 (Zad Tryz.f33) = [] by kernel_rfl)), (ZqC qb n a).trans hn⟩
def Zev (qh : T1g) {R : Type} (n : Nat) (a0 : List Val) (a1 : List Val) (kx0 : Bool → Option R) (kr : Bool → Option R) (y4 : Bool) (y5 : Int) (k : Bool → Int → Option R) : Option R :=
  cond (decide (y5 < (a0.length : Int)))
  (Option.bind (ZfX a0 y5) fun x3 =>
  Option.bind (ZfX a1 y5) fun x4 =>
  Option.bind (cond (!(!(Tok.eqb x3.tok x4.tok))) (ZfX a0 y5) (some YcM)) fun x5 =>
  Option.bind (cond (!(!(Tok.eqb x3.tok x4.tok))) (ZfX a1 y5) (some YcM)) fun x6 =>
  Option.bind (cond (!(!(Tok.eqb x3.tok x4.tok))) (qh (x5.l, x6.l)) (some false)) fun r7 =>
  Option.bind (some (cond (!(Tok.eqb x3.tok x4.tok)) true (!r7))) fun m8 =>
  cond m8
  (kr false)
  (k y4 (IntKind.i64.wrap (y5 + (1 : Int)))))
  (kx0 y4)
def Zho (qh : T1g) (n : Nat) (p0 : List Val) (p1 : List Val) : Option Bool :=
  cond ((p0.length : Int) != (p1.length : Int))
  (some false)
  (Zhy (Zev qh n p0 p1 (fun z1 =>
  some true) (fun z2 =>
  some z2)) n false (0 : Int))
abbrev Zps (qh : T1g) : List (Nat × TCall X) := [(15, ⟨true, [.ty 22, .ty 22], [4], qh⟩)]
noncomputable abbrev ZcI (qh : T1g) : Cx := ⟨C, U, Zps qh, [], fun _ => []⟩
theorem Znl : okF (C.ann 15) Tryz.f15 2 = true := by kernel_rfl
abbrev ref04_Same_L0_D : LD := ⟨0, [.val 0 22, .val 1 22], [.val 4 4, .val 5 2], [(0, [.val 4 4])], [.val 4 4]⟩
abbrev ZdI (qh : T1g) (n : Nat) : LG U (PX X [4]) ref04_Same_L0_D := fun c kx kr y k => Zev qh n c.1 c.2.1 (fun z0 => kx 0 (z0, ())) (fun z0 => kr (z0, ())) y.1 y.2.1 (fun z0 z1 => k (z0, z1, ()))
noncomputable abbrev Zdt (qh : T1g) (n : Nat) : ZfY (ZcI qh) (PX X [4]) := [(0, Zgy U ref04_Same_L0_D (ZdI qh n) n)]
theorem Zk2 (qh : T1g) (n : Nat) : ∀ c kx kr y k1, evL (ZcI qh) (ann 15) (Zdt qh n) 0 (ZaH (Zad Tryz.f15) 0) (Zfx U ref04_Same_L0_D kx kr k1) (encS U ref04_Same_L0_D.cap ref04_Same_L0_D.din c y) = ZdI qh n c (fun i z => kx i c z) kr y (fun y2 => k1 c y2) := by
  intro c kx kr y k1
  kernel_rfl
theorem ZqB (qh : T1g) (n : Nat) : ∀ a, fnL (ZcI qh) true 15 Tryz.f15 [.ty 22, .ty 22] [4] (Zdt qh n) a = Zho qh n a.1 a.2 := by
  intro a
  kernel_rfl
theorem ZiR {K : Zaa} (qh : T1g) (h0 : P1h K qh) : CallsOk (ZcI qh) (Zac C K) :=
  ⟨(Zap h0 Zbc), Zbb⟩
theorem Zjc {K : Zaa} (qh : T1g) (h0 : P1h K qh) (n : Nat) (b0 : Base) (bn0 : b0.nr ≤ 0) : Law (ZcI qh) b0 (Zac C K) (ann 15) n (ZaH (Zad Tryz.f15) 0) (Zgy U ref04_Same_L0_D (ZdI qh n) n) :=
  Zen (x := ZcI qh) (id := 0) ok (ZiR qh h0) (sums := Zdt qh n) (ZaR (show ZaD 0 (ZaH (Zad Tryz.f15) 0) = [] by kernel_rfl)) ref04_Same_L0_D bn0 (ZdI qh n) (Zk2 qh n)
theorem Zj7 {K : Zaa} (hK : ∀ args h, K 15 args h = none) (qh : T1g) (h0 : P1h K qh) (t : PX X (AK.tys [.ty 22, .ty 22]) → Option (PX X [4])) (h : ∀ a r, t a = some r → ∃ n, Zho qh n a.1 a.2 = some r) : ZaC U (Zac C K) 15 ⟨true, [.ty 22, .ty 22], [4], t⟩ := by
  refine ZaY (x := ZcI qh) (ak := [.ty 22, .ty 22]) (rts := [4]) (dir := true) ok (ZiR qh h0) hK Tryz.func15 Znl fun a r hr => ?_
  obtain ⟨n, hn⟩ := h a r hr
  exact ⟨n, Zdt qh n, (Zci (ids := [0]) (by kernel_rfl) (by decide) (fun i hi => by
    simp only [List.mem_cons, List.not_mem_nil, or_false] at hi
    rcases hi with rfl
    · exact Zch (c2 := ZaH (Zad Tryz.f15) 0) (by kernel_rfl) (by kernel_rfl) (Zjc qh h0 _ _ (Nat.le_refl _))
    )), (ZqB qh n a).trans hn⟩
def Zfj (qi : T1h) (n : Nat) (p0 : List UInt8) (p1 : List UInt8) : Option Bool :=
  Option.bind (qi (p0, p1)) fun r1 =>
  some r1
abbrev Zh4 (qi : T1h) : List (Nat × TCall X) := [(89, ⟨true, [.ty 9, .ty 9], [4], qi⟩)]
noncomputable abbrev Zcu (qi : T1h) : Cx := ⟨C, U, Zh4 qi, [], fun _ => []⟩
theorem Zhx : okF (C.ann 72) Tryz.f72 2 = true := by kernel_rfl
noncomputable abbrev ZdL (qi : T1h) (n : Nat) : ZfY (Zcu qi) (PX X [4]) := []
theorem ZhR (qi : T1h) (n : Nat) : ∀ a, fnL (Zcu qi) true 72 Tryz.f72 [.ty 9, .ty 9] [4] (ZdL qi n) a = Zfj qi n a.1 a.2 := by
  intro a
  kernel_rfl
theorem ZhA {K : Zaa} (qi : T1h) (h0 : P1i K qi) : CallsOk (Zcu qi) (Zac C K) :=
  ⟨(Zap h0 Zbc), Zbb⟩
theorem ZfW {K : Zaa} (hK : ∀ args h, K 72 args h = none) (qi : T1h) (h0 : P1i K qi) (t : PX X (AK.tys [.ty 9, .ty 9]) → Option (PX X [4])) (h : ∀ a r, t a = some r → ∃ n, Zfj qi n a.1 a.2 = some r) : ZaC U (Zac C K) 72 ⟨true, [.ty 9, .ty 9], [4], t⟩ := by
  refine ZaY (x := Zcu qi) (ak := [.ty 9, .ty 9]) (rts := [4]) (dir := true) ok (ZhA qi h0) hK Tryz.func72 Zhx fun a r hr => ?_
  obtain ⟨n, hn⟩ := h a r hr
  exact ⟨n, ZdL qi n, (ZaR (show ZaD 0 (Zad Tryz.f72) = [] by kernel_rfl)), (ZhR qi n a).trans hn⟩
def Zbh (n : Nat) (p0 : List UInt8) (p1 : List UInt8) : Option Bool :=
  Option.bind (cond (decide ((p0.length : Int) ≥ (p1.length : Int))) (ZsI p0 (0 : Int) (p1.length : Int)) (some [])) fun s1 =>
  Option.bind (some (cond (decide ((p0.length : Int) ≥ (p1.length : Int))) (s1 == p1) false)) fun m2 =>
  some m2
abbrev ZdK : List (Nat × TCall X) := []
noncomputable abbrev Zbd : Cx := ⟨C, U, ZdK , [], fun _ => []⟩
theorem ZdB : okF (C.ann 89) Tryz.f89 2 = true := by kernel_rfl
noncomputable abbrev ZbV (n : Nat) : ZfY (Zbd ) (PX X [4]) := []
theorem ZdJ (n : Nat) : ∀ a, fnL (Zbd ) true 89 Tryz.f89 [.ty 9, .ty 9] [4] (ZbV n) a = Zbh n a.1 a.2 := by
  intro a
  kernel_rfl
theorem ZdC {K : Zaa} : CallsOk (Zbd ) (Zac C K) :=
  ⟨Zbc, Zbb⟩
theorem Zc1 {K : Zaa} (hK : ∀ args h, K 89 args h = none) (t : PX X (AK.tys [.ty 9, .ty 9]) → Option (PX X [4])) (h : ∀ a r, t a = some r → ∃ n, Zbh n a.1 a.2 = some r) : ZaC U (Zac C K) 89 ⟨true, [.ty 9, .ty 9], [4], t⟩ := by
  refine ZaY (x := Zbd ) (ak := [.ty 9, .ty 9]) (rts := [4]) (dir := true) ok (ZdC ) hK Tryz.func89 ZdB fun a r hr => ?_
  obtain ⟨n, hn⟩ := h a r hr
  exact ⟨n, ZbV n, (ZaR (show ZaD 0 (Zad Tryz.f89) = [] by kernel_rfl)), (ZdJ n a).trans hn⟩
def ZeY (qj : T1h) (n : Nat) (p0 : List UInt8) : Option Bool :=
  Option.bind (qj (p0, [45, 45])) fun r1 =>
  Option.bind (some (cond r1 (decide ((p0.length : Int) > (2 : Int))) false)) fun m2 =>
  Option.bind (some (cond m2 (decide ((p0.length : Int) ≤ (64 : Int))) false)) fun m3 =>
  some m3
abbrev Zmu (qj : T1h) : List (Nat × TCall X) := [(72, ⟨true, [.ty 9, .ty 9], [4], qj⟩)]
noncomputable abbrev Zd8 (qj : T1h) : Cx := ⟨C, U, Zmu qj, [], fun _ => []⟩
theorem ZlG : okF (C.ann 61) Tryz.f61 1 = true := by kernel_rfl
noncomputable abbrev Zfv (qj : T1h) (n : Nat) : ZfY (Zd8 qj) (PX X [4]) := []
theorem Zmv (qj : T1h) (n : Nat) : ∀ a, fnL (Zd8 qj) true 61 Tryz.f61 [.ty 9] [4] (Zfv qj n) a = ZeY qj n a := by
  intro a
  kernel_rfl
theorem ZlX {K : Zaa} (qj : T1h) (h0 : P1j K qj) : CallsOk (Zd8 qj) (Zac C K) :=
  ⟨(Zap h0 Zbc), Zbb⟩
theorem Zio {K : Zaa} (hK : ∀ args h, K 61 args h = none) (qj : T1h) (h0 : P1j K qj) (t : PX X (AK.tys [.ty 9]) → Option (PX X [4])) (h : ∀ a r, t a = some r → ∃ n, ZeY qj n a = some r) : ZaC U (Zac C K) 61 ⟨true, [.ty 9], [4], t⟩ := by
  refine ZaY (x := Zd8 qj) (ak := [.ty 9]) (rts := [4]) (dir := true) ok (ZlX qj h0) hK Tryz.func61 ZlG fun a r hr => ?_
  obtain ⟨n, hn⟩ := h a r hr
  exact ⟨n, Zfv qj n, (ZaR (show ZaD 0 (Zad Tryz.f61) = [] by kernel_rfl)), (Zmv qj n a).trans hn⟩
def Zd3 {R : Type} (n : Nat) (a2 : List UInt8) (a3 : Nat) (a8 : Nat) (a9 : Int) (kx0 : List Int → Option R) (y10 : Int) (h1 : List Int) (k : Int → List Int → Option R) : Option R :=
  cond (decide (y10 < a9))
  (Option.bind (if 0 ≤ y10 ∧ y10 < a8 ∧ y10 < h1.length then some y10.toNat else none) fun i3 =>
  Option.bind (h1[i3]?) fun e4 =>
  Option.bind (some (cond (decide (e4 ≥ (65 : Int))) (decide (e4 ≤ (90 : Int))) false)) fun m5 =>
  Option.bind (cond m5 (if 0 ≤ y10 ∧ y10 < a3 ∧ y10 < h1.length then some y10.toNat else none) (some 0)) fun i6 =>
  Option.bind (cond m5 (if i6 < h1.length then some (h1.set i6 (IntKind.u8.wrap ((IntKind.u8.wrap (e4 + (97 : Int))) - (65 : Int)))) else none) (some h1)) fun a7 =>
  Option.bind (some (cond m5 a7 h1)) fun m8 =>
  k (IntKind.i64.wrap (y10 + (1 : Int))) m8)
  (kx0 h1)
def Zf7 (n : Nat) (p0 : List UInt8) : Option (List UInt8) :=
  Zhy (Zd3 n [] p0.length p0.length (p0.length : Int) (fun z1 =>
  Option.bind (if p0.length ≤ z1.length then some (Znq (z1.take p0.length)) else none) fun s2 =>
  some s2)) n (0 : Int) (Zf9 p0)
abbrev Zon : List (Nat × TCall X) := []
noncomputable abbrev Zcx : Cx := ⟨C, U, Zon , [], fun _ => []⟩
theorem Zmh : okF (C.ann 41) Tryz.f41 1 = true := by kernel_rfl
abbrev short_small_L0_D : LD := ⟨0, [.val 2 9, .osl 3 0 5, .osl 8 0 5, .val 9 2], [.val 10 2, .harr false 5], [(0, [.harr false 5])], []⟩
abbrev Zda (n : Nat) : LG U (PX X [9]) short_small_L0_D := fun c kx kr y k => Zd3 n c.1 c.2.1 c.2.2.1 c.2.2.2.1 (fun z0 => kx 0 (z0, ())) y.1 y.2.1 (fun z0 z1 => k (z0, z1, ()))
noncomputable abbrev Zc3 (n : Nat) : ZfY (Zcx ) (PX X [9]) := [(0, Zgy U short_small_L0_D (Zda n) n)]
theorem Zj2 (n : Nat) : ∀ c kx kr y k1, evL (Zcx ) (ann 41) (Zc3 n) 0 (ZaH (Zad Tryz.f41) 0) (Zfx U short_small_L0_D kx kr k1) (encS U short_small_L0_D.cap short_small_L0_D.din c y) = Zda n c (fun i z => kx i c z) kr y (fun y2 => k1 c y2) := by
  intro c kx kr y k1
  kernel_rfl
theorem ZoI (n : Nat) : ∀ a, fnL (Zcx ) true 41 Tryz.f41 [.ty 9] [9] (Zc3 n) a = Zf7 n a := by
  intro a
  kernel_rfl
theorem ZhN {K : Zaa} : CallsOk (Zcx ) (Zac C K) :=
  ⟨Zbc, Zbb⟩
theorem Zil {K : Zaa} (n : Nat) (b0 : Base) (bn0 : b0.nr ≤ 0) : Law (Zcx ) b0 (Zac C K) (ann 41) n (ZaH (Zad Tryz.f41) 0) (Zgy U short_small_L0_D (Zda n) n) :=
  Zen (x := Zcx ) (id := 0) ok (ZhN ) (sums := Zc3 n) (ZaR (show ZaD 0 (ZaH (Zad Tryz.f41) 0) = [] by kernel_rfl)) short_small_L0_D bn0 (Zda n) (Zj2 n)
theorem Zi6 {K : Zaa} (hK : ∀ args h, K 41 args h = none) (t : PX X (AK.tys [.ty 9]) → Option (PX X [9])) (h : ∀ a r, t a = some r → ∃ n, Zf7 n a = some r) : ZaC U (Zac C K) 41 ⟨true, [.ty 9], [9], t⟩ := by
  refine ZaY (x := Zcx ) (ak := [.ty 9]) (rts := [9]) (dir := true) ok (ZhN ) hK Tryz.func41 Zmh fun a r hr => ?_
  obtain ⟨n, hn⟩ := h a r hr
  exact ⟨n, Zc3 n, (Zci (ids := [0]) (by kernel_rfl) (by decide) (fun i hi => by
    simp only [List.mem_cons, List.not_mem_nil, or_false] at hi
    rcases hi with rfl
    · exact Zch (c2 := ZaH (Zad Tryz.f41) 0) (by kernel_rfl) (by kernel_rfl) (Zil _ _ (Nat.le_refl _))
    )), (ZoI n a).trans hn⟩
end Go.Tev.S1
namespace Go.Tev.S1
open Go.Abs Go.Proofs
abbrev T2a : Type := (List UInt8) → Option (List UInt8)
abbrev T2b : Type := (List Val) → Option Bool
abbrev T2c : Type := (List Val) → Option Int
abbrev T2d : Type := Val → Option Bool
abbrev T2e : Type := (List Val) → Option (List Val)
abbrev T2f : Type := (List UInt8) → Option Bool
abbrev P2a (K : Zaa) (t : T2a) : Prop := ZaC U (Zac C K) 41 ⟨true, [.ty 9], [9], t⟩
abbrev P2b (K : Zaa) (t : T2b) : Prop := ZaC U (Zac C K) 14 ⟨true, [.ty 22], [4], t⟩
abbrev P2c (K : Zaa) (t : T2c) : Prop := ZaC U (Zac C K) 60 ⟨true, [.ty 22, .fn 40], [3], t⟩
abbrev P2d (K : Zaa) (t : T2d) : Prop := ZaC U (Zac C K) 40 ⟨true, [.ty 51], [4], t⟩
abbrev P2e (K : Zaa) (t : T2b) : Prop := ZaC U (Zac C K) 39 ⟨true, [.ty 22, .fn 40], [4], t⟩
abbrev P2h (K : Zaa) (t : T2c) : Prop := ZaC U (Zac C K) 44 ⟨true, [.ty 22], [3], t⟩
abbrev P2k (K : Zaa) (t : T2e) : Prop := ZaC U (Zac C K) 67 ⟨true, [.ty 22], [22], t⟩
abbrev P2l (K : Zaa) (t : T2f) : Prop := ZaC U (Zac C K) 61 ⟨true, [.ty 9], [4], t⟩
abbrev P2m (K : Zaa) (t : T2e) : Prop := ZaC U (Zac C K) 68 ⟨true, [.ty 22], [22], t⟩
def ZfR (qa : T2a) (qb : T2b) (n : Nat) (p0 : Val) : Option Bool :=
  Option.bind (cond (p0.tok.k == (2 : Int)) (qa p0.tok.t) (some [])) fun r1 =>
  Option.bind (some (cond (p0.tok.k == (2 : Int)) (r1 == [118, 97, 114]) false)) fun m2 =>
  Option.bind (cond (!m2) (qb p0.l) (some false)) fun r3 =>
  Option.bind (some (cond m2 true r3)) fun m4 =>
  some m4
abbrev Zn4 (qa : T2a) (qb : T2b) : List (Nat × TCall X) := [(41, ⟨true, [.ty 9], [9], qa⟩), (14, ⟨true, [.ty 22], [4], qb⟩)]
noncomputable abbrev Zet (qa : T2a) (qb : T2b) : Cx := ⟨C, U, Zn4 qa qb, [], fun _ => []⟩
theorem Zmd : okF (C.ann 40) Tryz.f40 1 = true := by kernel_rfl
noncomputable abbrev Zgj (qa : T2a) (qb : T2b) (n : Nat) : ZfY (Zet qa qb) (PX X [4]) := []
theorem ZnA (qa : T2a) (qb : T2b) (n : Nat) : ∀ a, fnL (Zet qa qb) true 40 Tryz.f40 [.ty 51] [4] (Zgj qa qb n) a = ZfR qa qb n a := by
  intro a
  kernel_rfl
theorem Zmj {K : Zaa} (qa : T2a) (qb : T2b) (h0 : P2a K qa) (h1 : P2b K qb) : CallsOk (Zet qa qb) (Zac C K) :=
  ⟨(Zap h0 (Zap h1 Zbc)), Zbb⟩
theorem Zjg {K : Zaa} (hK : ∀ args h, K 40 args h = none) (qa : T2a) (qb : T2b) (h0 : P2a K qa) (h1 : P2b K qb) (t : PX X (AK.tys [.ty 51]) → Option (PX X [4])) (h : ∀ a r, t a = some r → ∃ n, ZfR qa qb n a = some r) : ZaC U (Zac C K) 40 ⟨true, [.ty 51], [4], t⟩ := by
  refine ZaY (x := Zet qa qb) (ak := [.ty 51]) (rts := [4]) (dir := true) ok (Zmj qa qb h0 h1) hK Tryz.func40 Zmd fun a r hr => ?_
  obtain ⟨n, hn⟩ := h a r hr
  exact ⟨n, Zgj qa qb n, (ZaR (show ZaD 0 (Zad Tryz.f40) = [] by kernel_rfl)), (ZnA qa qb n a).trans hn⟩
def ZaJ (qc : T2c) (n : Nat) (p0 : List Val) : Option Bool :=
  Option.bind (qc p0) fun r1 =>
  some (decide (r1 ≥ (0 : Int)))
abbrev ZbT (qc : T2c) : List (Nat × TCall X) := [(60, ⟨true, [.ty 22, .fn 40], [3], qc⟩)]
noncomputable abbrev Zat (qc : T2c) : Cx := ⟨C, U, ZbT qc, [], fun _ => []⟩
theorem ZbM : okF (C.ann 39) Tryz.f39 2 = true := by kernel_rfl
noncomputable abbrev Za3 (qc : T2c) (n : Nat) : ZfY (Zat qc) (PX X [4]) := []
theorem ZbU (qc : T2c) (n : Nat) : ∀ a, fnL (Zat qc) true 39 Tryz.f39 [.ty 22, .fn 40] [4] (Za3 qc n) a = ZaJ qc n a := by
  intro a
  kernel_rfl
theorem ZbQ {K : Zaa} (qc : T2c) (h0 : P2c K qc) : CallsOk (Zat qc) (Zac C K) :=
  ⟨(Zap h0 Zbc), Zbb⟩
theorem ZbJ {K : Zaa} (hK : ∀ args h, K 39 args h = none) (qc : T2c) (h0 : P2c K qc) (t : PX X (AK.tys [.ty 22, .fn 40]) → Option (PX X [4])) (h : ∀ a r, t a = some r → ∃ n, ZaJ qc n a = some r) : ZaC U (Zac C K) 39 ⟨true, [.ty 22, .fn 40], [4], t⟩ := by
  refine ZaY (x := Zat qc) (ak := [.ty 22, .fn 40]) (rts := [4]) (dir := true) ok (ZbQ qc h0) hK Tryz.func39 ZbM fun a r hr => ?_
  obtain ⟨n, hn⟩ := h a r hr
  exact ⟨n, Za3 qc n, (ZaR (show ZaD 0 (Zad Tryz.f39) = [] by kernel_rfl)), (ZbU qc n a).trans hn⟩
def Zav (qd : T2d) {R : Type} (n : Nat) (a0 : List Val) (_ : Unit) (a7 : Int) (kx0 : Int → Option R) (kr : Int → Option R) (y4 : Int) (y8 : Int) (k : Int → Int → Option R) : Option R :=
  cond (decide (y8 < a7))
  (Option.bind (ZfX a0 y8) fun x3 =>
  Option.bind (qd (Val.mk x3.tok x3.l)) fun r4 =>
  cond r4
  (kr y8)
  (k y4 (IntKind.i64.wrap (y8 + (1 : Int)))))
  (kx0 y4)
def ZaB (qd : T2d) (n : Nat) (p0 : List Val) : Option Int :=
  Zhy (Zav qd n p0 () (p0.length : Int) (fun z1 =>
  some (-1 : Int)) (fun z2 =>
  some z2)) n (0 : Int) (0 : Int)
abbrev Zb4 (qd : T2d) : List (Nat × TCall X) := [(40, ⟨true, [.ty 51], [4], qd⟩)]
noncomputable abbrev Zaf (qd : T2d) : Cx := ⟨C, U, Zb4 qd, [], fun _ => []⟩
theorem ZbZ : okF (C.ann 60) Tryz.f60 2 = true := by kernel_rfl
abbrev slices_IndexFuncapi_Value_api_Value_short_Var_1_L0_D : LD := ⟨0, [.val 0 22, .fn 1 40, .val 7 2], [.val 4 2, .val 8 2], [(0, [.val 4 2])], [.val 4 3]⟩
abbrev Zas (qd : T2d) (n : Nat) : LG U (PX X [3]) slices_IndexFuncapi_Value_api_Value_short_Var_1_L0_D := fun c kx kr y k => Zav qd n c.1 c.2.1 c.2.2.1 (fun z0 => kx 0 (z0, ())) (fun z0 => kr (z0, ())) y.1 y.2.1 (fun z0 z1 => k (z0, z1, ()))
noncomputable abbrev Zar (qd : T2d) (n : Nat) : ZfY (Zaf qd) (PX X [3]) := [(0, Zgy U slices_IndexFuncapi_Value_api_Value_short_Var_1_L0_D (Zas qd n) n)]
theorem ZbS (qd : T2d) (n : Nat) : ∀ c kx kr y k1, evL (Zaf qd) (ann 60) (Zar qd n) 0 (ZaH (Zad Tryz.f60) 0) (Zfx U slices_IndexFuncapi_Value_api_Value_short_Var_1_L0_D kx kr k1) (encS U slices_IndexFuncapi_Value_api_Value_short_Var_1_L0_D.cap slices_IndexFuncapi_Value_api_Value_short_Var_1_L0_D.din c y) = Zas qd n c (fun i z => kx i c z) kr y (fun y2 => k1 c y2) := by
  intro c kx kr y k1
  kernel_rfl
theorem Zb3 (qd : T2d) (n : Nat) : ∀ a, fnL (Zaf qd) true 60 Tryz.f60 [.ty 22, .fn 40] [3] (Zar qd n) a = ZaB qd n a := by
  intro a
  kernel_rfl
theorem Zbe {K : Zaa} (qd : T2d) (h0 : P2d K qd) : CallsOk (Zaf qd) (Zac C K) :=
  ⟨(Zap h0 Zbc), Zbb⟩
theorem ZbK {K : Zaa} (qd : T2d) (h0 : P2d K qd) (n : Nat) (b0 : Base) (bn0 : b0.nr ≤ 0) : Law (Zaf qd) b0 (Zac C K) (ann 60) n (ZaH (Zad Tryz.f60) 0) (Zgy U slices_IndexFuncapi_Value_api_Value_short_Var_1_L0_D (Zas qd n) n) :=
  Zen (x := Zaf qd) (id := 0) ok (Zbe qd h0) (sums := Zar qd n) (ZaR (show ZaD 0 (ZaH (Zad Tryz.f60) 0) = [] by kernel_rfl)) slices_IndexFuncapi_Value_api_Value_short_Var_1_L0_D bn0 (Zas qd n) (ZbS qd n)
theorem ZbN {K : Zaa} (hK : ∀ args h, K 60 args h = none) (qd : T2d) (h0 : P2d K qd) (t : PX X (AK.tys [.ty 22, .fn 40]) → Option (PX X [3])) (h : ∀ a r, t a = some r → ∃ n, ZaB qd n a = some r) : ZaC U (Zac C K) 60 ⟨true, [.ty 22, .fn 40], [3], t⟩ := by
  refine ZaY (x := Zaf qd) (ak := [.ty 22, .fn 40]) (rts := [3]) (dir := true) ok (Zbe qd h0) hK Tryz.func60 ZbZ fun a r hr => ?_
  obtain ⟨n, hn⟩ := h a r hr
  exact ⟨n, Zar qd n, (Zci (ids := [0]) (by kernel_rfl) (by decide) (fun i hi => by
    simp only [List.mem_cons, List.not_mem_nil, or_false] at hi
    rcases hi with rfl
    · exact Zch (c2 := ZaH (Zad Tryz.f60) 0) (by kernel_rfl) (by kernel_rfl) (ZbK qd h0 _ _ (Nat.le_refl _))
    )), (Zb3 qd n a).trans hn⟩
def Zlu (qe : T2b) (n : Nat) (p0 : List Val) : Option Bool :=
  Option.bind (qe p0) fun r1 =>
  some r1
abbrev Zrf (qe : T2b) : List (Nat × TCall X) := [(39, ⟨true, [.ty 22, .fn 40], [4], qe⟩)]
noncomputable abbrev Zgc (qe : T2b) : Cx := ⟨C, U, Zrf qe, [], fun _ => []⟩
theorem Zpr : okF (C.ann 14) Tryz.f14 1 = true := by kernel_rfl
noncomputable abbrev ZhJ (qe : T2b) (n : Nat) : ZfY (Zgc qe) (PX X [4]) := []
theorem ZrO (qe : T2b) (n : Nat) : ∀ a, fnL (Zgc qe) true 14 Tryz.f14 [.ty 22] [4] (ZhJ qe n) a = Zlu qe n a := by
  intro a
  kernel_rfl
theorem Zqv {K : Zaa} (qe : T2b) (h0 : P2e K qe) : CallsOk (Zgc qe) (Zac C K) :=
  ⟨(Zap h0 Zbc), Zbb⟩
theorem Zlj {K : Zaa} (hK : ∀ args h, K 14 args h = none) (qe : T2b) (h0 : P2e K qe) (t : PX X (AK.tys [.ty 22]) → Option (PX X [4])) (h : ∀ a r, t a = some r → ∃ n, Zlu qe n a = some r) : ZaC U (Zac C K) 14 ⟨true, [.ty 22], [4], t⟩ := by
  refine ZaY (x := Zgc qe) (ak := [.ty 22]) (rts := [4]) (dir := true) ok (Zqv qe h0) hK Tryz.func14 Zpr fun a r hr => ?_
  obtain ⟨n, hn⟩ := h a r hr
  exact ⟨n, ZhJ qe n, (ZaR (show ZaD 0 (Zad Tryz.f14) = [] by kernel_rfl)), (ZrO qe n a).trans hn⟩
def Zea (qh : T2c) {R : Type} (n : Nat) (a2 : Int) (a6 : List Val) (a7 : Int) (kx0 : Int → Option R) (y3 : Int) (y8 : Int) (k : Int → Int → Option R) : Option R :=
  cond (decide (y8 < a7))
  (Option.bind (ZfX a6 y8) fun x2 =>
  Option.bind (qh x2.l) fun r3 =>
  k (IntKind.i64.wrap (y3 + (IntKind.i64.wrap ((IntKind.i64.wrap ((IntKind.i64.wrap ((1 : Int) + (x2.tok.t.length : Int))) + (x2.tok.u.length : Int))) + r3)))) (IntKind.i64.wrap (y8 + (1 : Int))))
  (kx0 y3)
def Zf5 (qh : T2c) (n : Nat) (p0 : List Val) : Option Int :=
  Zhy (Zea qh n (0 : Int) p0 (p0.length : Int) (fun z1 =>
  some z1)) n (0 : Int) (0 : Int)
abbrev Zob (qh : T2c) : List (Nat × TCall X) := [(44, ⟨true, [.ty 22], [3], qh⟩)]
noncomputable abbrev Zcs (qh : T2c) : Cx := ⟨C, U, Zob qh, [], fun _ => []⟩
theorem Zmx : okF (C.ann 44) Tryz.f44 1 = true := by kernel_rfl
abbrev vars_length_L0_D : LD := ⟨0, [.val 2 2, .val 6 22, .val 7 2], [.val 3 2, .val 8 2], [(0, [.val 3 2])], []⟩
abbrev Zc5 (qh : T2c) (n : Nat) : LG U (PX X [3]) vars_length_L0_D := fun c kx kr y k => Zea qh n c.1 c.2.1 c.2.2.1 (fun z0 => kx 0 (z0, ())) y.1 y.2.1 (fun z0 z1 => k (z0, z1, ()))
noncomputable abbrev Zdc (qh : T2c) (n : Nat) : ZfY (Zcs qh) (PX X [3]) := [(0, Zgy U vars_length_L0_D (Zc5 qh n) n)]
theorem Zkh (qh : T2c) (n : Nat) : ∀ c kx kr y k1, evL (Zcs qh) (ann 44) (Zdc qh n) 0 (ZaH (Zad Tryz.f44) 0) (Zfx U vars_length_L0_D kx kr k1) (encS U vars_length_L0_D.cap vars_length_L0_D.din c y) = Zc5 qh n c (fun i z => kx i c z) kr y (fun y2 => k1 c y2) := by
  intro c kx kr y k1
  kernel_rfl
theorem ZnV (qh : T2c) (n : Nat) : ∀ a, fnL (Zcs qh) true 44 Tryz.f44 [.ty 22] [3] (Zdc qh n) a = Zf5 qh n a := by
  intro a
  kernel_rfl
theorem ZhI {K : Zaa} (qh : T2c) (h0 : P2h K qh) : CallsOk (Zcs qh) (Zac C K) :=
  ⟨(Zap h0 Zbc), Zbb⟩
theorem ZiW {K : Zaa} (qh : T2c) (h0 : P2h K qh) (n : Nat) (b0 : Base) (bn0 : b0.nr ≤ 0) : Law (Zcs qh) b0 (Zac C K) (ann 44) n (ZaH (Zad Tryz.f44) 0) (Zgy U vars_length_L0_D (Zc5 qh n) n) :=
  Zen (x := Zcs qh) (id := 0) ok (ZhI qh h0) (sums := Zdc qh n) (ZaR (show ZaD 0 (ZaH (Zad Tryz.f44) 0) = [] by kernel_rfl)) vars_length_L0_D bn0 (Zc5 qh n) (Zkh qh n)
theorem Zjy {K : Zaa} (hK : ∀ args h, K 44 args h = none) (qh : T2c) (h0 : P2h K qh) (t : PX X (AK.tys [.ty 22]) → Option (PX X [3])) (h : ∀ a r, t a = some r → ∃ n, Zf5 qh n a = some r) : ZaC U (Zac C K) 44 ⟨true, [.ty 22], [3], t⟩ := by
  refine ZaY (x := Zcs qh) (ak := [.ty 22]) (rts := [3]) (dir := true) ok (ZhI qh h0) hK Tryz.func44 Zmx fun a r hr => ?_
  obtain ⟨n, hn⟩ := h a r hr
  exact ⟨n, Zdc qh n, (Zci (ids := [0]) (by kernel_rfl) (by decide) (fun i hi => by
    simp only [List.mem_cons, List.not_mem_nil, or_false] at hi
    rcases hi with rfl
    · exact Zch (c2 := ZaH (Zad Tryz.f44) 0) (by kernel_rfl) (by kernel_rfl) (ZiW qh h0 _ _ (Nat.le_refl _))
    )), (ZnV qh n a).trans hn⟩
def Zg3 (n : Nat) (p0 : Val) : Option Bool :=
  Option.bind (some (cond (p0.tok.k == (2 : Int)) ((p0.tok.t.length : Int) == (3 : Int)) false)) fun m1 =>
  Option.bind (cond m1 (ZfX p0.tok.t (0 : Int)) (some 0)) fun b2 =>
  Option.bind (some (cond m1 ((IntKind.u8.wrap (BitVec.ofInt (IntKind.u8).bits (b2.toNat : Int) ||| BitVec.ofInt (IntKind.u8).bits (32 : Int)).toNat) == (118 : Int)) false)) fun m3 =>
  Option.bind (cond m3 (ZfX p0.tok.t (1 : Int)) (some 0)) fun b4 =>
  Option.bind (some (cond m3 ((IntKind.u8.wrap (BitVec.ofInt (IntKind.u8).bits (b4.toNat : Int) ||| BitVec.ofInt (IntKind.u8).bits (32 : Int)).toNat) == (97 : Int)) false)) fun m5 =>
  Option.bind (cond m5 (ZfX p0.tok.t (2 : Int)) (some 0)) fun b6 =>
  Option.bind (some (cond m5 ((IntKind.u8.wrap (BitVec.ofInt (IntKind.u8).bits (b6.toNat : Int) ||| BitVec.ofInt (IntKind.u8).bits (32 : Int)).toNat) == (114 : Int)) false)) fun m7 =>
  some m7
abbrev ZqL : List (Nat × TCall X) := []
noncomputable abbrev Ze2 : Cx := ⟨C, U, ZqL , [], fun _ => []⟩
theorem Znz : okF (C.ann 55) Tryz.f55 1 = true := by kernel_rfl
noncomputable abbrev ZgI (n : Nat) : ZfY (Ze2 ) (PX X [4]) := []
theorem Zpf (n : Nat) : ∀ a, fnL (Ze2 ) true 55 Tryz.f55 [.ty 51] [4] (ZgI n) a = Zg3 n a := by
  intro a
  kernel_rfl
theorem Zoo {K : Zaa} : CallsOk (Ze2 ) (Zac C K) :=
  ⟨Zbc, Zbb⟩
theorem Zkg {K : Zaa} (hK : ∀ args h, K 55 args h = none) (t : PX X (AK.tys [.ty 51]) → Option (PX X [4])) (h : ∀ a r, t a = some r → ∃ n, Zg3 n a = some r) : ZaC U (Zac C K) 55 ⟨true, [.ty 51], [4], t⟩ := by
  refine ZaY (x := Ze2 ) (ak := [.ty 51]) (rts := [4]) (dir := true) ok (Zoo ) hK Tryz.func55 Znz fun a r hr => ?_
  obtain ⟨n, hn⟩ := h a r hr
  exact ⟨n, ZgI n, (ZaR (show ZaD 0 (Zad Tryz.f55) = [] by kernel_rfl)), (Zpf n a).trans hn⟩
def Zff {R : Type} (n : Nat) (a2 : List Val) (kx0 : List Val → Option R) (y0 : List Val) (k : List Val → Option R) : Option R :=
  Option.bind (cond (decide ((y0.length : Int) > (0 : Int))) (ZfX y0 (0 : Int)) (some YcM)) fun x2 =>
  Option.bind (some (cond (decide ((y0.length : Int) > (0 : Int))) (x2.tok.k == (13 : Int)) false)) fun m3 =>
  cond m3
  (Option.bind (ZsI y0 (1 : Int) (y0.length : Int)) fun s4 =>
  k s4)
  (kx0 y0)
def Zf1 (n : Nat) (p0 : List Val) : Option (List Val) :=
  Zup (Zff n [] (fun z1 =>
  some z1)) n p0
abbrev ZnS : List (Nat × TCall X) := []
noncomputable abbrev Zcp : Cx := ⟨C, U, ZnS , [], fun _ => []⟩
theorem Zmn : okF (C.ann 67) Tryz.f67 1 = true := by kernel_rfl
abbrev vars_spaces_L0_D : LD := ⟨0, [.val 2 22], [.val 0 22], [(0, [.val 0 22])], []⟩
abbrev Zdb (n : Nat) : LG U (PX X [22]) vars_spaces_L0_D := fun c kx kr y k => Zff n c.1 (fun z0 => kx 0 (z0, ())) y.1 (fun z0 => k (z0, ()))
noncomputable abbrev Zc9 (n : Nat) : ZfY (Zcp ) (PX X [22]) := [(0, Zgy U vars_spaces_L0_D (Zdb n) n)]
theorem Zkk (n : Nat) : ∀ c kx kr y k1, evL (Zcp ) (ann 67) (Zc9 n) 0 (ZaH (Zad Tryz.f67) 0) (Zfx U vars_spaces_L0_D kx kr k1) (encS U vars_spaces_L0_D.cap vars_spaces_L0_D.din c y) = Zdb n c (fun i z => kx i c z) kr y (fun y2 => k1 c y2) := by
  intro c kx kr y k1
  kernel_rfl
theorem Zne (n : Nat) : ∀ a, fnL (Zcp ) true 67 Tryz.f67 [.ty 22] [22] (Zc9 n) a = Zf1 n a := by
  intro a
  kernel_rfl
theorem ZhC {K : Zaa} : CallsOk (Zcp ) (Zac C K) :=
  ⟨Zbc, Zbb⟩
theorem Zij {K : Zaa} (n : Nat) (b0 : Base) (bn0 : b0.nr ≤ 0) : Law (Zcp ) b0 (Zac C K) (ann 67) n (ZaH (Zad Tryz.f67) 0) (Zgy U vars_spaces_L0_D (Zdb n) n) :=
  Zen (x := Zcp ) (id := 0) ok (ZhC ) (sums := Zc9 n) (ZaR (show ZaD 0 (ZaH (Zad Tryz.f67) 0) = [] by kernel_rfl)) vars_spaces_L0_D bn0 (Zdb n) (Zkk n)
theorem Zjn {K : Zaa} (hK : ∀ args h, K 67 args h = none) (t : PX X (AK.tys [.ty 22]) → Option (PX X [22])) (h : ∀ a r, t a = some r → ∃ n, Zf1 n a = some r) : ZaC U (Zac C K) 67 ⟨true, [.ty 22], [22], t⟩ := by
  refine ZaY (x := Zcp ) (ak := [.ty 22]) (rts := [22]) (dir := true) ok (ZhC ) hK Tryz.func67 Zmn fun a r hr => ?_
  obtain ⟨n, hn⟩ := h a r hr
  exact ⟨n, Zc9 n, (Zci (ids := [0]) (by kernel_rfl) (by decide) (fun i hi => by
    simp only [List.mem_cons, List.not_mem_nil, or_false] at hi
    rcases hi with rfl
    · exact Zch (c2 := ZaH (Zad Tryz.f67) 0) (by kernel_rfl) (by kernel_rfl) (Zij _ _ (Nat.le_refl _))
    )), (Zne n a).trans hn⟩
def ZgX (qk : T2e) {R : Type} (n : Nat) (a2 : List Val) (kx0 : List Val → Option R) (y0 : List Val) (k : List Val → Option R) : Option R :=
  Option.bind (cond (decide ((y0.length : Int) > (0 : Int))) (ZfX y0 (IntKind.i64.wrap ((y0.length : Int) - (1 : Int)))) (some YcM)) fun x3 =>
  Option.bind (some (cond (decide ((y0.length : Int) > (0 : Int))) (x3.tok.k == (13 : Int)) false)) fun m4 =>
  cond m4
  (Option.bind (ZsI y0 (0 : Int) (IntKind.i64.wrap ((y0.length : Int) - (1 : Int)))) fun s5 =>
  k s5)
  (kx0 y0)
def Zib (qk : T2e) (n : Nat) (p0 : List Val) : Option (List Val) :=
  Option.bind (qk p0) fun r1 =>
  Zup (ZgX qk n [] (fun z2 =>
  some z2)) n r1
abbrev Zrl (qk : T2e) : List (Nat × TCall X) := [(67, ⟨true, [.ty 22], [22], qk⟩)]
noncomputable abbrev Zdg (qk : T2e) : Cx := ⟨C, U, Zrl qk, [], fun _ => []⟩
theorem ZpV : okF (C.ann 68) Tryz.f68 1 = true := by kernel_rfl
abbrev vars_trim_L0_D : LD := ⟨0, [.val 2 22], [.val 0 22], [(0, [.val 0 22])], []⟩
abbrev Zd4 (qk : T2e) (n : Nat) : LG U (PX X [22]) vars_trim_L0_D := fun c kx kr y k => ZgX qk n c.1 (fun z0 => kx 0 (z0, ())) y.1 (fun z0 => k (z0, ()))
noncomputable abbrev Zd6 (qk : T2e) (n : Nat) : ZfY (Zdg qk) (PX X [22]) := [(0, Zgy U vars_trim_L0_D (Zd4 qk n) n)]
theorem Zl8 (qk : T2e) (n : Nat) : ∀ c kx kr y k1, evL (Zdg qk) (ann 68) (Zd6 qk n) 0 (ZaH (Zad Tryz.f68) 0) (Zfx U vars_trim_L0_D kx kr k1) (encS U vars_trim_L0_D.cap vars_trim_L0_D.din c y) = Zd4 qk n c (fun i z => kx i c z) kr y (fun y2 => k1 c y2) := by
  intro c kx kr y k1
  kernel_rfl
theorem ZrS (qk : T2e) (n : Nat) : ∀ a, fnL (Zdg qk) true 68 Tryz.f68 [.ty 22] [22] (Zd6 qk n) a = Zib qk n a := by
  intro a
  kernel_rfl
theorem ZjW {K : Zaa} (qk : T2e) (h0 : P2k K qk) : CallsOk (Zdg qk) (Zac C K) :=
  ⟨(Zap h0 Zbc), Zbb⟩
theorem Zke {K : Zaa} (qk : T2e) (h0 : P2k K qk) (n : Nat) (b0 : Base) (bn0 : b0.nr ≤ 0) : Law (Zdg qk) b0 (Zac C K) (ann 68) n (ZaH (Zad Tryz.f68) 0) (Zgy U vars_trim_L0_D (Zd4 qk n) n) :=
  Zen (x := Zdg qk) (id := 0) ok (ZjW qk h0) (sums := Zd6 qk n) (ZaR (show ZaD 0 (ZaH (Zad Tryz.f68) 0) = [] by kernel_rfl)) vars_trim_L0_D bn0 (Zd4 qk n) (Zl8 qk n)
theorem Zlh {K : Zaa} (hK : ∀ args h, K 68 args h = none) (qk : T2e) (h0 : P2k K qk) (t : PX X (AK.tys [.ty 22]) → Option (PX X [22])) (h : ∀ a r, t a = some r → ∃ n, Zib qk n a = some r) : ZaC U (Zac C K) 68 ⟨true, [.ty 22], [22], t⟩ := by
  refine ZaY (x := Zdg qk) (ak := [.ty 22]) (rts := [22]) (dir := true) ok (ZjW qk h0) hK Tryz.func68 ZpV fun a r hr => ?_
  obtain ⟨n, hn⟩ := h a r hr
  exact ⟨n, Zd6 qk n, (Zci (ids := [0]) (by kernel_rfl) (by decide) (fun i hi => by
    simp only [List.mem_cons, List.not_mem_nil, or_false] at hi
    rcases hi with rfl
    · exact Zch (c2 := ZaH (Zad Tryz.f68) 0) (by kernel_rfl) (by kernel_rfl) (Zke qk h0 _ _ (Nat.le_refl _))
    )), (ZrS qk n a).trans hn⟩
def Zhf (qk : T2e) (ql : T2f) (qm : T2e) (n : Nat) (p0 : Val) : Option ((List UInt8) × (List Val) × Bool) :=
  Option.bind (qk p0.l) fun r1 =>
  Option.bind (cond (!((r1.length : Int) == (0 : Int))) (ZfX r1 (0 : Int)) (some YcM)) fun x2 =>
  Option.bind (some (cond ((r1.length : Int) == (0 : Int)) true (x2.tok.k != (1 : Int)))) fun m3 =>
  Option.bind (cond (!m3) (ZfX r1 (0 : Int)) (some YcM)) fun x4 =>
  Option.bind (cond (!m3) (ql x4.tok.t) (some false)) fun r5 =>
  Option.bind (some (cond m3 true (!r5))) fun m6 =>
  cond m6
  (some ([], [], false))
  (Option.bind (ZfX r1 (0 : Int)) fun x7 =>
  Option.bind (ZsI r1 (1 : Int) (r1.length : Int)) fun s8 =>
  Option.bind (qk s8) fun r9 =>
  cond ((r9.length : Int) == (0 : Int))
  (some (x7.tok.t, [], false))
  (Option.bind (ZfX r9 (0 : Int)) fun x10 =>
  cond (x10.tok.k == (18 : Int))
  (Option.bind (ZsI r9 (1 : Int) (r9.length : Int)) fun s11 =>
  Option.bind (qm s11) fun r12 =>
  some (x7.tok.t, r12, true))
  (some ([], [], false))))
abbrev Zpz (qk : T2e) (ql : T2f) (qm : T2e) : List (Nat × TCall X) := [(67, ⟨true, [.ty 22], [22], qk⟩), (61, ⟨true, [.ty 9], [4], ql⟩), (68, ⟨true, [.ty 22], [22], qm⟩)]
noncomputable abbrev Ze9 (qk : T2e) (ql : T2f) (qm : T2e) : Cx := ⟨C, U, Zpz qk ql qm, [], fun _ => []⟩
theorem Zom : okF (C.ann 56) Tryz.f56 1 = true := by kernel_rfl
noncomputable abbrev ZgD (qk : T2e) (ql : T2f) (qm : T2e) (n : Nat) : ZfY (Ze9 qk ql qm) (PX X [9, 22, 4]) := []
theorem Zpb (qk : T2e) (ql : T2f) (qm : T2e) (n : Nat) : ∀ a, fnL (Ze9 qk ql qm) true 56 Tryz.f56 [.ty 51] [9, 22, 4] (ZgD qk ql qm n) a = Zhf qk ql qm n a := by
  intro a
  kernel_rfl
theorem ZnG {K : Zaa} (qk : T2e) (ql : T2f) (qm : T2e) (h0 : P2k K qk) (h1 : P2l K ql) (h2 : P2m K qm) : CallsOk (Ze9 qk ql qm) (Zac C K) :=
  ⟨(Zap h0 (Zap h1 (Zap h2 Zbc))), Zbb⟩
theorem Zj3 {K : Zaa} (hK : ∀ args h, K 56 args h = none) (qk : T2e) (ql : T2f) (qm : T2e) (h0 : P2k K qk) (h1 : P2l K ql) (h2 : P2m K qm) (t : PX X (AK.tys [.ty 51]) → Option (PX X [9, 22, 4])) (h : ∀ a r, t a = some r → ∃ n, Zhf qk ql qm n a = some r) : ZaC U (Zac C K) 56 ⟨true, [.ty 51], [9, 22, 4], t⟩ := by
  refine ZaY (x := Ze9 qk ql qm) (ak := [.ty 51]) (rts := [9, 22, 4]) (dir := true) ok (ZnG qk ql qm h0 h1 h2) hK Tryz.func56 Zom fun a r hr => ?_
  obtain ⟨n, hn⟩ := h a r hr
  exact ⟨n, ZgD qk ql qm n, (ZaR (show ZaD 0 (Zad Tryz.f56) = [] by kernel_rfl)), (Zpb qk ql qm n a).trans hn⟩
end Go.Tev.S1
namespace Go.Tev.S1
open Go.Abs Go.Proofs
def ZnQ (l : List Val) : Option Int := if Zaz l ≤ B then some (Zaz l : Int) else none
theorem ZtU {l : List Val} {r : Int} (h : ZnQ l = some r) : Zaz l ≤ B ∧ r = Zaz l := by
  unfold ZnQ at h
  split at h
  · rename_i h1; exact ⟨h1, (Option.some.inj h).symm⟩
  · cases h
theorem Zkr {l : List Val} (h : Zaz l ≤ B) : ZnQ l = some (Zaz l : Int) := if_pos h
end Go.Tev.S1
namespace Go.Tev.S1
open Go.Abs Go.Proofs
theorem ZrF (k : Int) : ZfE 0 k = some (Zck k) := by
  unfold ZfE Zck
  by_cases h1 : k = 2
  · simp [h1]
  · by_cases h2 : k = 21
    · rw [h2]; rfl
    · by_cases h3 : k = 19
      · rw [h3]; rfl
      · by_cases h4 : k = 23
        · rw [h4]; rfl
        · have e1 : (k == 2) = false := by simpa using h1
          have e2 : (k == 21) = false := by simpa using h2
          have e3 : (k == 19) = false := by simpa using h3
          have e4 : (k == 23) = false := by simpa using h4
          simp [h1, h2, h3, h4, e1, e2, e3, e4]
theorem Zzj {K : Zaa} (hK : ∀ args h, K 66 args h = none) : ZaC U (Zac C K) 66 ⟨true, [.ty 5], [5], fun k => some (Zck k)⟩ :=
  ZjF hK _ fun a r h => by cases h; exact ⟨0, ZrF a⟩
def Zr1 (a : List Val × Int) : Option Fnd := if Zaz a.1 ≤ B then some (Zpy a.2 a.1) else none
theorem ZnN {l : List Val} {cl : Int} (h : Zaz l ≤ B) : Zr1 (l, cl) = some (Zpy cl l) := if_pos h
theorem ZvC (cl : Int) (l : List Val) (k : Nat) (h1 : Zaz l < k + 1) (h2 : Zaz l ≤ B) : ZiJ (fun k => some (Zck k)) (below (fun a : List Val × Int => Zaz a.1) k Zr1) (l.length + 1) l cl = some (Zpy cl l) := by
  have hB : B = 2 ^ 36 := rfl
  unfold ZiJ
  refine (Zhb l (fun (b : List Val) => ((0 : Int), (0 : Int), false)) (fun b => ((Zi0 b : Int), (ZjJ b : Int), Zn0 cl b)) (fun b v => .inl (b ++ [v])) (fun b => some (Zpy cl b)) (fun i b => b = l.take i) ?_ ?_ ?_ [] rfl _ (Nat.lt_succ_self _)).trans ?_
  · intro i b v k' hv hlt hb
    subst hb
    have hmem := List.mem_of_getElem? hv
    have hs := ZfL hmem
    have hle := Zf4 l i
    have ht := Ztk hv
    have hle2 := Zf4 l (i + 1)
    have hl := Zf2 l
    have hd := Zkt (l.take i)
    have hn := Zky (l.take i)
    have hd' := Zkt v.l
    have hn' := Zky v.l
    simp (disch := omega) only [Zfb, Zct hv, Option.bind_some, dlt hlt, cond_true, Bool.cond_self, ZeW, ZnN, Zeg]
    have hi : (i : Int) + 1 = ((i + 1 : Nat) : Int) := rfl
    rw [hi]
    simp only [Zlq, ZkM, Zln, Zi0, ZjJ, Zn0, Val.dep_eq v, Val.ntk_eq v, Val.bad_eq cl v, Zpy]
    have hp : decide ((v.l.length : Int) > 0) = decide (0 < v.l.length) := by simp
    rw [hp]
    by_cases hc : Zck v.tok.k = 0
    · simp only [hc, beq_self_eq_true, cond_true, if_true]
      have hx : (((max (Zi0 (l.take i)) (max 0 0) : Nat)) : Int) = (Zi0 (l.take i) : Int) := by omega
      have hy : (((ZjJ (l.take i) + (1 + 0) : Nat)) : Int) = (ZjJ (l.take i) : Int) + 1 := by omega
      rw [hx, hy]
      cases e1 : (cl != 0) <;> cases e2 : (v.tok.k == cl) <;> cases e3 : decide (0 < v.l.length) <;> cases e4 : Zn0 cl (l.take i) <;> rfl
    · have hc' : (Zck v.tok.k == 0) = false := by simpa using hc
      have hc2 : (Zck v.tok.k != 0) = true := by simpa using hc
      have hbel : below (fun a : List Val × Int => Zaz a.1) k Zr1 (v.l, Zck v.tok.k) = some (Zpy (Zck v.tok.k) v.l) := (ZeW (sz := fun a : List Val × Int => Zaz a.1) (show Zaz v.l < k by omega)).trans (ZnN (by omega))
      simp (disch := omega) only [hc', hc2, cond_false, if_neg hc, hbel, Option.bind_some, Zpy, Zeg]
      have hx : (if (Zi0 v.l : Int) + 1 > (Zi0 (l.take i) : Int) then (Zi0 v.l : Int) + 1 else (Zi0 (l.take i) : Int)) = (((max (Zi0 (l.take i)) (max (1 + Zi0 v.l) 0) : Nat)) : Int) := by split <;> omega
      have hy : (ZjJ (l.take i) : Int) + 1 + (ZjJ v.l : Int) + 1 = (((ZjJ (l.take i) + (2 + ZjJ v.l + 0) : Nat)) : Int) := by omega
      rw [hx, hy]
      cases e1 : (cl != 0) <;> cases e2 : (v.tok.k == cl) <;> cases e3 : decide (0 < v.l.length) <;> cases e4 : Zn0 cl (l.take i) <;> cases e5 : Zn0 (Zck v.tok.k) v.l <;> rfl
  · intro i b v b' hv hb hs
    cases hs
    rw [Zcm hv, hb]
  · intro b k' hb
    simp only [Zfb, ZrM, cond_false]; rfl
  · rw [Zef (fun (b : List Val) (v : Val) => b ++ [v]), Zg7]
theorem YdP {K : Zaa} (hK : ∀ args h, K 52 args h = none) (h67 : ∀ args h, K 66 args h = none) : ZaC U (Zac C K) 52 ⟨true, [.ty 22, .ty 5], [84], Zr1⟩ :=
  Zfo (U := U) (ak := [.ty 22, .ty 5]) (rts := [84]) (fun a : List Val × Int => Zaz a.1) Zr1 fun k ih => ZlA hK _ _ (Zzj h67) ih _ fun a r h => by
    obtain ⟨h1, h2⟩ := ZeI h
    unfold Zr1 at h2
    split at h2
    · rename_i h3
      cases h2
      exact ⟨_, ZvC a.2 a.1 k h1 h3⟩
    · cases h2
def Za0 (l : List Val) : Int := if Zi0 l > 16 then 20 else if ZjJ l > 1500 then 4 else if Zn0 0 l then 8 else 0
def ZjY (l : List Val) : Option Int := if Zaz l ≤ B then some (Za0 l) else none
theorem ZfB {l : List Val} (h : Zaz l ≤ B) : ZjY l = some (Za0 l) := if_pos h
theorem ZtQ (l : List Val) (h : Zaz l ≤ B) : Zhr Zr1 0 l = some (Za0 l) := by
  unfold Zhr Za0
  rw [ZnN h]
  simp only [Option.bind_some, Zpy]
  by_cases h1 : Zi0 l > 16
  · have : decide ((Zi0 l : Int) > 16) = true := by simp; omega
    rw [this, if_pos h1]; rfl
  · have : decide ((Zi0 l : Int) > 16) = false := by simp; omega
    rw [this, if_neg h1]
    by_cases h2 : ZjJ l > 1500
    · have : decide ((ZjJ l : Int) > 1500) = true := by simp; omega
      rw [this, if_pos h2]; rfl
    · have : decide ((ZjJ l : Int) > 1500) = false := by simp; omega
      rw [this, if_neg h2]
      cases Zn0 0 l <;> rfl
theorem ZeN {K : Zaa} (hK : ∀ args h, K 33 args h = none) (h43 : ∀ args h, K 52 args h = none) (h67 : ∀ args h, K 66 args h = none) : ZaC U (Zac C K) 33 ⟨true, [.ty 22], [28], ZjY⟩ :=
  Zka hK _ (YdP h43 h67) _ fun a r h => by
    unfold ZjY at h
    split at h
    · rename_i h3
      cases h
      exact ⟨0, ZtQ a h3⟩
    · cases h
end Go.Tev.S1
namespace Go.Tev.S1
open Go.Abs Go.Proofs
theorem YaC {b n : Nat} (h1 : n ≤ 2 ^ 40) (h2 : b ≤ 96) : room b n = some () := by
  unfold room
  have h3 : n * b ≤ 2 ^ 40 * 96 := Nat.mul_le_mul h1 h2
  rw [if_pos ⟨by omega, by omega⟩]
end Go.Tev.S1
namespace Go.Tev
open Go.Abs
def ZoJ (b : UInt8) : UInt8 := if 65 ≤ b.toNat ∧ b.toNat ≤ 90 then b + 32 else b
def Ze8 (l : List UInt8) : List UInt8 := l.map ZoJ
def Zco (l : List UInt8) : Bool := (decide ((l.length : Int) > 2) && decide ((l.length : Int) ≤ 64)) && (l.take 2 == [45, 45])
def Val.ref (v : Val) : Bool := v.tok.k == 2 && (Ze8 v.tok.t == [118, 97, 114])
mutual
def Val.hasv : Val → Bool
  | .mk t l => (t.k == 2 && (Ze8 t.t == [118, 97, 114])) || ZbD l
def ZbD : List Val → Bool
  | [] => false
  | v :: r => v.hasv || ZbD r
end
theorem Val.hasv_eq (v : Val) : v.hasv = (v.ref || ZbD v.l) := by cases v; rfl
theorem ZjK (a b : List Val) : ZbD (a ++ b) = (ZbD a || ZbD b) := by
  induction a with
  | nil => simp [ZbD]
  | cons v a ih => simp [ZbD, ih, Bool.or_assoc]
def sp (v : Val) : Bool := v.tok.k == 13
def spL : List Val → List Val
  | [] => []
  | v :: r => if sp v then spL r else v :: r
def trR (l : List Val) : List Val := (spL l.reverse).reverse
def trL (l : List Val) : List Val := trR (spL l)
theorem ZsG (l : List Val) : Zaz l.reverse = Zaz l := by
  induction l with
  | nil => rfl
  | cons v l ih => simp [ZdQ, Zaz, ih]; omega
theorem ZlS (l : List Val) : Zaz (spL l) ≤ Zaz l := by
  induction l with
  | nil => exact Nat.le_refl _
  | cons v r ih => unfold spL; split <;> simp only [Zaz] <;> omega
theorem Ybs (l : List Val) : Zaz (trL l) ≤ Zaz l := by
  unfold trL trR
  rw [ZsG]
  have h1 := ZlS (spL l).reverse
  rw [ZsG] at h1
  have h2 := ZlS l
  omega
def ZaA (l : List Val) : List UInt8 × List Val × Bool :=
  match spL l with
  | [] => ([], [], false)
  | x :: r => if x.tok.k = 1 ∧ Zco x.tok.t = true then
      (match spL r with
      | [] => (x.tok.t, [], false)
      | y :: s => if y.tok.k = 18 then (x.tok.t, trL s, true) else ([], [], false))
    else ([], [], false)
theorem ZiC (l : List Val) : Zaz (ZaA l).2.1 ≤ Zaz l := by
  unfold ZaA
  have h1 := ZlS l
  cases e : spL l with
  | nil => simp [Zaz]
  | cons x r =>
    rw [e] at h1
    simp only [Zaz] at h1
    have h2 := ZlS r
    simp only
    split
    · cases e2 : spL r with
      | nil => simp [Zaz]
      | cons y s =>
        rw [e2] at h2
        simp only [Zaz] at h2
        simp only
        split
        · have := Ybs s
          simp only; omega
        · simp [Zaz]
    · simp [Zaz]
end Go.Tev
namespace Go.Tev.S1
open Go.Abs Go.Proofs
theorem kf {K : Zaa} (hK : Zde K) (f : Nat) (h : f ∉ [8, 26, 37, 43, 62, 73]) : ∀ args g, K f args g = none := fun args g => hK f args g h
theorem Zmb (p q : List UInt8) : Zbh 0 p q = some (p.take q.length == q) := by
  unfold Zbh
  by_cases h : q.length ≤ p.length
  · have : decide ((p.length : Int) ≥ (q.length : Int)) = true := by simp; omega
    simp only [this, cond_true, ZsI]
    rw [if_pos (by omega)]
    simp
  · have : decide ((p.length : Int) ≥ (q.length : Int)) = false := by simp; omega
    simp only [this, cond_false, Option.bind_some]
    congr 1
    symm
    rw [beq_eq_false_iff_ne]
    intro he
    have := congrArg List.length he
    simp at this
    omega
theorem ZrD (p : List UInt8) : ZeY (fun a => some (a.1.take a.2.length == a.2)) 0 p = some (Zco p) := by
  unfold ZeY Zco
  simp only [Option.bind_some, List.length_cons, List.length_nil]
  cases e1 : (p.take 2 == [45, 45]) <;> cases e2 : decide ((p.length : Int) > 2) <;> cases e3 : decide ((p.length : Int) ≤ 64) <;> rfl
theorem ZpW {K : Zaa} (hK : Zde K) : ZaC U (Zac C K) 89 ⟨true, [.ty 9, .ty 9], [4], fun a => some (a.1.take a.2.length == a.2)⟩ :=
  Zc1 (kf hK 89 (by decide)) _ fun a r h => by cases h; exact ⟨0, Zmb a.1 a.2⟩
theorem ZrB {K : Zaa} (hK : Zde K) : ZaC U (Zac C K) 72 ⟨true, [.ty 9, .ty 9], [4], fun a => some (a.1.take a.2.length == a.2)⟩ :=
  ZfW (kf hK 72 (by decide)) _ (ZpW hK) _ fun a r h => by cases h; exact ⟨0, rfl⟩
theorem Ztt {K : Zaa} (hK : Zde K) : ZaC U (Zac C K) 61 ⟨true, [.ty 9], [4], fun a => some (Zco a)⟩ :=
  Zio (kf hK 61 (by decide)) _ (ZrB hK) _ fun a r h => by cases h; exact ⟨0, ZrD a⟩
def Yd7 (l : List UInt8) : Option (List UInt8) := if l.length ≤ B then some (Ze8 l) else none
theorem Ycp {l : List UInt8} (h : l.length ≤ B) : Yd7 l = some (Ze8 l) := if_pos h
def half (l b : List UInt8) : List Int := Zf9 (b ++ l.drop b.length)
theorem ZsB {l : List UInt8} {i : Nat} {v : UInt8} (hv : l[i]? = some v) : (half l (Ze8 (l.take i)))[i]? = some (v.toNat : Int) := by
  have hlt : i < l.length := (List.getElem?_eq_some_iff.1 hv).1
  simp only [half, Zf9, Ze8, List.length_map, List.length_take, List.getElem?_map]
  rw [List.getElem?_append_right (by simp; omega)]
  simp only [List.length_map, List.length_take, List.getElem?_drop, Nat.min_eq_left (Nat.le_of_lt hlt)]
  rw [Nat.sub_self, Nat.add_zero, hv]; rfl
theorem Zn5 {l : List UInt8} {i : Nat} (h : i ≤ l.length) : (half l (Ze8 (l.take i))).length = l.length := by
  simp [half, Zf9, Ze8]; omega
theorem ZqA {l : List UInt8} {i : Nat} {v : UInt8} (hv : l[i]? = some v) : half l (Ze8 (l.take (i + 1))) = (half l (Ze8 (l.take i))).set i ((ZoJ v).toNat : Int) := by
  have hlt : i < l.length := (List.getElem?_eq_some_iff.1 hv).1
  apply List.ext_getElem?
  intro j
  rw [Zcm hv]
  simp only [half, Zf9, Ze8, List.map_append, List.map_cons, List.map_nil, List.length_append, List.length_map, List.length_take, Nat.min_eq_left (Nat.le_of_lt hlt), List.length_cons, List.length_nil]
  have hd : l.drop i = v :: l.drop (i + 1) := by
    rw [List.drop_eq_getElem_cons hlt]
    have := List.getElem?_eq_getElem hlt
    rw [hv] at this
    cases this; rfl
  rw [hd]
  simp only [List.append_assoc, List.cons_append, List.nil_append, List.map_append, List.map_cons, List.map_map]
  have hl : (List.map ((fun c => ((UInt8.toNat c : Nat) : Int)) ∘ ZoJ) (List.take i l)).length = i := by simp; omega
  rw [List.set_append_right _ _ (by rw [hl]; exact Nat.le_refl _), hl, Nat.sub_self]
  rfl
theorem Znb {l : List UInt8} {i : Nat} {v : UInt8} (hv : l[i]? = some v) (h : ZoJ v = v) : half l (Ze8 (l.take (i + 1))) = half l (Ze8 (l.take i)) := by
  rw [ZqA hv, h]
  have h2 := ZsB hv
  apply List.ext_getElem?
  intro j
  by_cases hj : i = j
  · subst hj
    rw [List.getElem?_set_self (by rw [Zn5]; exact (List.getElem?_eq_some_iff.1 hv).1; exact Nat.le_of_lt (List.getElem?_eq_some_iff.1 hv).1), h2]
  · rw [List.getElem?_set_ne hj]
theorem ZoT (l : List UInt8) : Znq ((half l (Ze8 l)).take l.length) = Ze8 l := by
  have : half l (Ze8 l) = Zf9 (Ze8 l) := by
    unfold half
    rw [List.drop_eq_nil_of_le (by simp [Ze8]), List.append_nil]
  rw [this, List.take_of_length_le (by simp [Zf9, Ze8])]
  unfold Znq Zf9
  rw [List.map_map]
  conv => rhs; rw [← List.map_id (Ze8 l)]
  apply List.map_congr_left
  intro c _
  simp
theorem Yci {v : UInt8} (h : 65 ≤ v.toNat ∧ v.toNat ≤ 90) : ((ZoJ v).toNat : Int) = (v.toNat : Int) + 32 := by
  unfold ZoJ
  rw [if_pos h, UInt8.toNat_add]
  have : (32 : UInt8).toNat = 32 := rfl
  rw [this]; omega
theorem Ya8 {v : UInt8} (h : ¬ (65 ≤ v.toNat ∧ v.toNat ≤ 90)) : ZoJ v = v := if_neg h
theorem YdQ {n : Int} (h1 : 0 ≤ n) (h2 : n < 256) : IntKind.u8.wrap n = n := by
  simp [IntKind.wrap, IntKind.signed, IntKind.bits]
  omega
theorem ZuE (l : List UInt8) (h2 : l.length ≤ B) : Zf7 (l.length + 1) l = some (Ze8 l) := by
  have hB : B = 2 ^ 36 := rfl
  unfold Zf7
  refine ((congrArg (fun z => Zhy _ _ _ z) (show Zf9 l = half l (Ze8 (l.take 0)) by simp [half, Ze8])).trans (Zh5 l (half l) (fun b v => .inl (b ++ [ZoJ v])) (fun b => some (Znq ((half l b).take l.length))) (fun i b => b = Ze8 (l.take i)) ?_ ?_ ?_ [] rfl _ (Nat.lt_succ_self _))).trans ?_
  · intro i b v k' hv hlt hb
    subst hb
    have hlen := Zn5 (l := l) (i := i) (by omega)
    have hn := v.toNat_lt
    have hg : (if 0 ≤ (i : Int) ∧ (i : Int) < l.length ∧ (i : Int) < (half l (Ze8 (l.take i))).length then some (i : Int).toNat else none) = some i := by
      rw [if_pos (by omega)]; rfl
    simp (disch := omega) only [Zd3, dlt hlt, cond_true, hg, Option.bind_some, ZsB hv, Zeg]
    have hi : (i : Int) + 1 = ((i + 1 : Nat) : Int) := rfl
    rw [hi]
    have hsn : half l (Ze8 (l.take i) ++ [ZoJ v]) = half l (Ze8 (l.take (i + 1))) := by rw [Zcm hv]; simp [Ze8]
    rw [hsn]
    by_cases hc : 65 ≤ v.toNat ∧ v.toNat ≤ 90
    · have e1 : decide ((v.toNat : Int) ≥ 65) = true := by simp; omega
      have e2 : decide ((v.toNat : Int) ≤ 90) = true := by simp; omega
      have e3 : i < (half l (Ze8 (l.take i))).length := by omega
      simp only [e1, e2, cond_true, hg, Option.bind_some, if_pos e3]
      rw [ZqA hv, Yci hc]
      congr 3
      rw [YdQ (n := (v.toNat : Int) + 97) (by omega) (by omega)]
      rw [YdQ (by omega) (by omega)]
      omega
    · have e1 : (bif decide ((v.toNat : Int) ≥ 65) then decide ((v.toNat : Int) ≤ 90) else false) = false := by
        cases a : decide ((v.toNat : Int) ≥ 65)
        · rfl
        · simp at a ⊢; omega
      simp only [e1, cond_false, Option.bind_some]
      rw [Znb hv (Ya8 hc)]
  · intro i b v b' hv hb hs
    cases hs
    rw [Zcm hv, hb]; simp [Ze8]
  · intro b k' hb
    rw [List.take_length] at hb
    subst hb
    have := Zn5 (l := l) (i := l.length) (Nat.le_refl _)
    rw [List.take_length] at this
    simp only [Zd3, ZrM, cond_false, this, Nat.le_refl, if_true, Option.bind_some]
  · rw [Zef (fun (b : List UInt8) (v : UInt8) => b ++ [ZoJ v])]
    have : ∀ (l b : List UInt8), l.foldl (fun (b : List UInt8) (v : UInt8) => b ++ [ZoJ v]) b = b ++ Ze8 l := by
      intro l
      induction l with
      | nil => intro b; simp [Ze8]
      | cons v l ih => intro b; simp only [List.foldl_cons, ih]; simp [Ze8]
    rw [this, List.nil_append, ZoT]
theorem YcF {K : Zaa} (hK : Zde K) : ZaC U (Zac C K) 41 ⟨true, [.ty 9], [9], Yd7⟩ :=
  Zi6 (kf hK 41 (by decide)) _ fun a r h => by
    unfold Yd7 at h
    split at h
    · rename_i h3; cases h; exact ⟨_, ZuE a h3⟩
    · cases h
end Go.Tev.S1
namespace Go.Tev.S1
open Go.Abs Go.Proofs
theorem Ydq : ∀ (c : Nat), c = 118 ∨ c = 97 ∨ c = 114 → ∀ (n : Nat), n < 256 → ((IntKind.u8.wrap (BitVec.ofInt 8 (n : Int) ||| BitVec.ofInt 8 32).toNat) == (c : Int)) = decide ((ZoJ (UInt8.ofNat n)).toNat = c) := by
  intro c hc
  rcases hc with rfl | rfl | rfl <;> decide +kernel
theorem Zq2 {b : UInt8} {c : UInt8} (hc : c.toNat = 118 ∨ c.toNat = 97 ∨ c.toNat = 114) : ((IntKind.u8.wrap (BitVec.ofInt (IntKind.u8).bits (b.toNat : Int) ||| BitVec.ofInt (IntKind.u8).bits (32 : Int)).toNat) == (c.toNat : Int)) = (ZoJ b == c) := by
  have h := Ydq c.toNat hc b.toNat b.toNat_lt
  rw [UInt8.ofNat_toNat] at h
  refine h.trans ?_
  rw [Bool.eq_iff_iff, decide_eq_true_iff, beq_iff_eq]
  exact ⟨UInt8.toNat_inj.1, fun h => h ▸ rfl⟩
theorem Zt4 (v : Val) : Zg3 0 v = some v.ref := by
  unfold Zg3 Val.ref
  cases e : (v.tok.k == 2)
  · rfl
  · simp only [cond_true, Option.bind_some, Bool.true_and]
    have h1 := fun b => Zq2 (b := b) (c := 118) (Or.inl rfl)
    have h2 := fun b => Zq2 (b := b) (c := 97) (Or.inr (Or.inl rfl))
    have h3 := fun b => Zq2 (b := b) (c := 114) (Or.inr (Or.inr rfl))
    have c1 : (((118 : UInt8).toNat : Nat) : Int) = 118 := rfl
    have c2 : (((97 : UInt8).toNat : Nat) : Int) = 97 := rfl
    have c3 : (((114 : UInt8).toNat : Nat) : Int) = 114 := rfl
    rw [c1] at h1
    rw [c2] at h2
    rw [c3] at h3
    rcases v.tok.t with _ | ⟨a, _ | ⟨b, _ | ⟨c, _ | ⟨d, r⟩⟩⟩⟩
    · rfl
    · have : (Ze8 [a] == [118, 97, 114]) = false := by simp [Ze8]
      rw [this]; rfl
    · have : (Ze8 [a, b] == [118, 97, 114]) = false := by simp [Ze8]
      rw [this]; rfl
    · have e0 : (([a, b, c].length : Int) == 3) = true := rfl
      have g0 : ZfX [a, b, c] 0 = some a := rfl
      have g1 : ZfX [a, b, c] 1 = some b := rfl
      have g2 : ZfX [a, b, c] 2 = some c := rfl
      simp only [e0, g0, g1, g2, cond_true, Option.bind_some, h1]
      have hl : (Ze8 [a, b, c] == [118, 97, 114]) = (ZoJ a == 118 && (ZoJ b == 97 && ZoJ c == 114)) := by
        simp only [Ze8, List.map_cons, List.map_nil, List.cons_beq_cons, Bool.and_true, beq_self_eq_true]
      rw [hl]
      cases e1 : (ZoJ a == 118)
      · rfl
      · simp only [cond_true, Option.bind_some, h2]
        cases e2 : (ZoJ b == 97)
        · rfl
        · simp only [cond_true, Option.bind_some, h3]
          rfl
    · have e0 : (((a :: b :: c :: d :: r).length : Int) == 3) = false := by
        simp only [List.length_cons, beq_eq_false_iff_ne]; omega
      have : (Ze8 (a :: b :: c :: d :: r) == [118, 97, 114]) = false := by simp [Ze8]
      rw [e0, this]; rfl
theorem ZrY {K : Zaa} (hK : Zde K) : ZaC U (Zac C K) 55 ⟨true, [.ty 51], [4], fun v => some v.ref⟩ :=
  Zkg (kf hK 55 (by decide)) _ fun a r h => by cases h; exact ⟨0, Zt4 a⟩
def Zz9 (l : List Val) : Option Bool := if Zaz l ≤ B then some (ZbD l) else none
theorem Zru {l : List Val} (h : Zaz l ≤ B) : Zz9 l = some (ZbD l) := if_pos h
def Zgg : List Val → Int → Int
  | [], _ => -1
  | v :: r, i => if v.hasv then i else Zgg r (i + 1)
theorem ZvR (l : List Val) : ∀ i : Nat, decide (Zgg l (i : Int) ≥ 0) = ZbD l := by
  induction l with
  | nil => intro i; rfl
  | cons v r ih =>
    intro i
    by_cases h : v.hasv = true
    · have e : Zgg (v :: r) (i : Int) = i := by simp only [Zgg, h, if_true]
      rw [e, ZbD, h]; simp
    · have e : Zgg (v :: r) (i : Int) = Zgg r ((i + 1 : Nat) : Int) := by simp only [Zgg, if_neg h]; rfl
      rw [e, ih (i + 1), ZbD, (Bool.not_eq_true _).mp h, Bool.false_or]
def sV1 (k : Nat) (v : Val) : Option Bool := if Zaz v.l < k ∧ v.tot ≤ B then some v.hasv else none
def sV2 (k : Nat) (l : List Val) : Option Int := if Zaz l < k + 1 ∧ Zaz l ≤ B then some (Zgg l 0) else none
def sV3 (k : Nat) (l : List Val) : Option Bool := if Zaz l < k + 1 ∧ Zaz l ≤ B then some (ZbD l) else none
theorem YbW (k : Nat) (v : Val) (h1 : Zaz v.l < k) (h2 : v.tot ≤ B) : ZfR Yd7 (below Zaz k Zz9) 0 v = some v.hasv := by
  have he := v.tot_eq
  have hbel : below Zaz k Zz9 v.l = some (ZbD v.l) := (ZeW (show Zaz v.l < k by omega)).trans (Zru (by omega))
  unfold ZfR
  simp only [Ycp (show v.tok.t.length ≤ B by omega), hbel, Option.bind_some]
  rw [Val.hasv_eq, Val.ref]
  cases e1 : (v.tok.k == 2) <;> cases e2 : (Ze8 v.tok.t == [118, 97, 114]) <;> cases e5 : ZbD v.l <;> first | rfl | simp [e2]
theorem Ycx (k : Nat) (l : List Val) (h1 : Zaz l < k + 1) (h2 : Zaz l ≤ B) : ZaB (sV1 k) (l.length + 1) l = some (Zgg l 0) := by
  have hB : B = 2 ^ 36 := rfl
  unfold ZaB
  refine (ZdX l (fun (_ : Nat) => (0 : Int)) (fun b v => if v.hasv then .inr (some (b : Int)) else .inl (b + 1)) (fun b => some (-1 : Int)) (fun i b => b = i) ?_ ?_ ?_ 0 rfl _ (Nat.lt_succ_self _)).trans ?_
  · intro i b v k' hv hlt hb
    subst hb
    have hmem := List.mem_of_getElem? hv
    have hs := ZfL hmem
    have hm := ZkH hmem
    have hl := Zf2 l
    have h3 : sV1 k (Val.mk v.tok v.l) = some v.hasv := by rw [Val.eta]; exact if_pos ⟨by omega, by omega⟩
    simp (disch := omega) only [Zav, Zct hv, Option.bind_some, dlt hlt, cond_true, h3, Zeg]
    cases v.hasv <;> rfl
  · intro i b v b' hv hb hs
    subst hb
    cases e : v.hasv <;> rw [e] at hs <;> cases hs
    rfl
  · intro b k' hb
    simp only [Zav, ZrM, cond_false]
  · clear h1 h2
    have : ∀ (l : List Val) (b : Nat), ZlH (fun (b : Nat) (v : Val) => if v.hasv then .inr (some (b : Int)) else .inl (b + 1)) (fun _ => some (-1 : Int)) l b = some (Zgg l (b : Int)) := by
      intro l
      induction l with
      | nil => intro b; rfl
      | cons v l ih =>
        intro b
        simp only [ZlH, Zgg]
        cases v.hasv with
        | true => rfl
        | false => exact ih (b + 1)
    exact this l 0
theorem Ydb {K : Zaa} (hK : Zde K) : ZaC U (Zac C K) 14 ⟨true, [.ty 22], [4], Zz9⟩ :=
  Zfo (U := U) (ak := [.ty 22]) (rts := [4]) Zaz Zz9 fun k ih =>
    have m1 : ZaC U (Zac C K) 40 ⟨true, [.ty 51], [4], sV1 k⟩ := Zjg (kf hK 40 (by decide)) _ _ (YcF hK) ih _ fun a r h => by
      unfold sV1 at h
      split at h
      · rename_i h3; cases h; exact ⟨0, YbW k a h3.1 h3.2⟩
      · cases h
    have m2 : ZaC U (Zac C K) 60 ⟨true, [.ty 22, .fn 40], [3], sV2 k⟩ := ZbN (kf hK 60 (by decide)) _ m1 _ fun a r h => by
      unfold sV2 at h
      split at h
      · rename_i h3; cases h; exact ⟨_, Ycx k a h3.1 h3.2⟩
      · cases h
    have m3 : ZaC U (Zac C K) 39 ⟨true, [.ty 22, .fn 40], [4], sV3 k⟩ := ZbJ (kf hK 39 (by decide)) _ m2 _ fun a r h => by
      unfold sV3 at h
      split at h
      · rename_i h3; cases h
        refine ⟨0, ?_⟩
        unfold ZaJ
        rw [show sV2 k a = some (Zgg a 0) from if_pos h3]
        exact congrArg some (ZvR a 0)
      · cases h
    Zlj (kf hK 14 (by decide)) _ m3 _ fun a r h => by
      obtain ⟨h1, h2⟩ := ZeI h
      unfold Zz9 at h2
      split at h2
      · rename_i h3; cases h2
        refine ⟨0, ?_⟩
        unfold Zlu
        rw [show sV3 k a = some (ZbD a) from if_pos ⟨h1, h3⟩]
        rfl
      · cases h2
end Go.Tev.S1
namespace Go.Tev
open Go.Abs
mutual
def Val.eqb : Val → Val → Bool
  | .mk t l, .mk t' l' => Tok.eqb t t' && Zus l l'
def Zus : List Val → List Val → Bool
  | [], [] => true
  | v :: r, v' :: r' => v.eqb v' && Zus r r'
  | _, _ => false
end
end Go.Tev
namespace Go.Tev.S1
open Go.Abs Go.Proofs
def ZoX (a : List Val × List Val) : Option Bool := if Zaz a.1 ≤ B ∧ Zaz a.2 ≤ B then some (Zus a.1 a.2) else none
theorem Zsg {l m : List Val} (h : Zaz l ≤ B) (h2 : Zaz m ≤ B) : ZoX (l, m) = some (Zus l m) := if_pos ⟨h, h2⟩
theorem Val.eqb_eq (v w : Val) : v.eqb w = (Tok.eqb v.tok w.tok && Zus v.l w.l) := by cases v; cases w; rfl
theorem Zs2 : ∀ (l m : List Val), l.length ≠ m.length → Zus l m = false
  | [], [], h => absurd rfl h
  | [], _ :: _, _ => rfl
  | _ :: _, [], _ => rfl
  | v :: r, w :: s, h => by
    rw [Zus, Zs2 r s (by simp at h; exact h), Bool.and_false]
theorem Zvb (l m : List Val) (k : Nat) (h1 : Zaz l < k + 1) (h2 : Zaz l ≤ B) (h3 : Zaz m ≤ B) : Zho (below (fun a : List Val × List Val => Zaz a.1) k ZoX) (l.length + 1) l m = some (Zus l m) := by
  have hB : B = 2 ^ 36 := rfl
  unfold Zho
  by_cases hle : l.length = m.length
  · have e0 : ((l.length : Int) != (m.length : Int)) = false := by simp [hle]
    rw [e0, cond_false]
    refine (ZdX (l.zip m) (fun (_ : Unit) => false) (fun b v => if v.1.eqb v.2 then .inl () else .inr (some false)) (fun b => some true) (fun i b => True) ?_ ?_ ?_ () trivial _ (by simp; omega)).trans ?_
    · intro i b v k' hv hlt hb
      have hz : i < l.length ∧ i < m.length := by simp at hlt; omega
      obtain ⟨hv1, hv2⟩ := List.getElem?_zip_eq_some.1 hv
      have hmem := List.mem_of_getElem? hv1
      have hmem2 := List.mem_of_getElem? hv2
      have hs := ZfL hmem
      have hs2 := ZfL hmem2
      have hl := Zf2 l
      have hbel : below (fun a : List Val × List Val => Zaz a.1) k ZoX (v.1.l, v.2.l) = some (Zus v.1.l v.2.l) := (ZeW (sz := fun a : List Val × List Val => Zaz a.1) (show Zaz v.1.l < k by omega)).trans (Zsg (by omega) (by omega))
      simp (disch := omega) only [Zev, Zct hv1, Zct hv2, Option.bind_some, dlt hz.1, cond_true, hbel, Zeg]
      have hi : (i : Int) + 1 = ((i + 1 : Nat) : Int) := rfl
      rw [hi, Val.eqb_eq]
      cases e1 : Tok.eqb v.1.tok v.2.tok <;> cases e5 : Zus v.1.l v.2.l <;> rw [e5] at hbel <;> first | rfl | simp [hbel]
    · intro i b v b' hv hb hs
      trivial
    · intro b k' hb
      have : (l.zip m).length = l.length := by simp; omega
      rw [this]
      simp only [Zev, ZrM, cond_false]
    · clear h1 h2 h3 e0
      induction l generalizing m with
      | nil => cases m with
        | nil => rfl
        | cons w m => simp at hle
      | cons v l ih => cases m with
        | nil => simp at hle
        | cons w m =>
          simp only [List.zip_cons_cons, ZlH, Zus]
          cases v.eqb w with
          | true => simpa using ih m (by simp at hle; exact hle)
          | false => rfl
  · have e0 : ((l.length : Int) != (m.length : Int)) = true := by simp; omega
    rw [e0, Zs2 l m hle]; rfl
theorem Ydy {K : Zaa} (hK : Zde K) : ZaC U (Zac C K) 15 ⟨true, [.ty 22, .ty 22], [4], ZoX⟩ :=
  Zfo (U := U) (ak := [.ty 22, .ty 22]) (rts := [4]) (fun a : List Val × List Val => Zaz a.1) ZoX fun k ih => Zj7 (kf hK 15 (by decide)) _ ih _ fun a r h => by
    obtain ⟨h1, h2⟩ := ZeI h
    unfold ZoX at h2
    split at h2
    · rename_i h3; cases h2; exact ⟨_, Zvb a.1 a.2 k h1 h3.1 h3.2⟩
    · cases h2
end Go.Tev.S1
namespace Go.Tev.S1
open Go.Abs Go.Proofs
theorem Zxo (l : List Val) (k : Nat) (h1 : Zaz l < k + 1) (h2 : Zaz l ≤ B) : Zf5 (below Zaz k ZnQ) (l.length + 1) l = some (Zaz l : Int) := by
  have hB : B = 2 ^ 36 := rfl
  unfold Zf5
  refine (ZdX l (fun (b : List Val) => (Zaz b : Int)) (fun b v => .inl (b ++ [v])) (fun b => some (Zaz b : Int)) (fun i b => b = l.take i) ?_ ?_ ?_ [] rfl _ (Nat.lt_succ_self _)).trans ?_
  · intro i b v k' hv hlt hb
    subst hb
    have hmem := List.mem_of_getElem? hv
    have hs := ZfL hmem
    have ht := Ztk hv
    have hle := Zf4 l (i + 1)
    have hl := Zf2 l
    have he := v.tot_eq
    have hbel : below Zaz k ZnQ v.l = some (Zaz v.l : Int) := (ZeW (show Zaz v.l < k by omega)).trans (Zkr (by omega))
    simp (disch := omega) only [Zea, Zct hv, Option.bind_some, dlt hlt, cond_true, hbel, Zeg]
    have hx : (Zaz (l.take i) : Int) + (1 + (v.tok.t.length : Int) + (v.tok.u.length : Int) + (Zaz v.l : Int)) = (Zaz (l.take i ++ [v]) : Int) := by
      rw [ZdQ]; simp only [Zaz]; omega
    rw [hx]; rfl
  · intro i b v b' hv hb hs
    cases hs
    rw [Zcm hv, hb]
  · intro b k' hb
    simp only [Zea, ZrM, cond_false]
  · rw [Zef (fun (b : List Val) (v : Val) => b ++ [v]), Zg7]
theorem Zv0 {K : Zaa} (hK : Zde K) : ZaC U (Zac C K) 44 ⟨true, [.ty 22], [3], ZnQ⟩ :=
  Zfo (U := U) (ak := [.ty 22]) (rts := [3]) Zaz ZnQ fun k ih => Zjy (kf hK 44 (by decide)) _ ih _ fun a r h => by
    obtain ⟨h1, h2⟩ := ZeI h
    obtain ⟨h3, rfl⟩ := ZtU h2
    exact ⟨_, Zxo a k h1 h3⟩
theorem Zm4 {R : Type} (G : List Val → (List Val → Option R) → Option R) (kx : List Val → Option R)
    (hG : ∀ l k, G l k = match l with
      | [] => kx []
      | v :: r => if sp v then k r else kx (v :: r)) : ∀ (l : List Val) (n : Nat), l.length < n → Zup G n l = kx (spL l)
  | [], n, h => by
    obtain ⟨n, rfl⟩ : ∃ m, n = m + 1 := ⟨n - 1, by omega⟩
    rw [Zg5, hG]; rfl
  | v :: r, n, h => by
    obtain ⟨n, rfl⟩ : ∃ m, n = m + 1 := ⟨n - 1, by omega⟩
    rw [Zg5, hG, spL]
    simp only
    by_cases hv : sp v = true
    · rw [if_pos hv, if_pos hv]
      exact Zm4 G kx hG r n (by simp at h; omega)
    · rw [if_neg hv, if_neg hv]
theorem ZwX {R : Type} (G : List Val → (List Val → Option R) → Option R) (kx : List Val → Option R)
    (h0 : ∀ k, G [] k = kx []) (hG : ∀ l v k, l.length < 2 ^ 62 → G (l ++ [v]) k = if sp v then k l else kx (l ++ [v])) : ∀ (m l : List Val) (n : Nat), l.reverse = m → l.length < n → l.length < 2 ^ 62 → Zup G n l = kx (trR l)
  | [], l, n, e, h, hb => by
    have : l = [] := by simpa using e
    subst this
    obtain ⟨n, rfl⟩ : ∃ m, n = m + 1 := ⟨n - 1, by omega⟩
    rw [Zg5, h0]; rfl
  | v :: r, l, n, e, h, hb => by
    have : l = r.reverse ++ [v] := by rw [← List.reverse_reverse l, e]; simp
    subst this
    simp at hb h
    obtain ⟨n, rfl⟩ : ∃ m, n = m + 1 := ⟨n - 1, by omega⟩
    rw [Zg5, hG _ _ _ (by simp; omega)]
    have e2 : trR (r.reverse ++ [v]) = if sp v then trR r.reverse else r.reverse ++ [v] := by
      unfold trR
      rw [e, spL]
      split
      · simp
      · simp
    rw [e2]
    by_cases hv : sp v = true
    · rw [if_pos hv, if_pos hv]
      exact ZwX G kx h0 hG r r.reverse n (by simp) (by simp; omega) (by simp; omega)
    · rw [if_neg hv, if_neg hv]
theorem Zw2 {v : Val} {r : List Val} : ZfX (v :: r) 0 = some v := rfl
theorem Zk6 {v : Val} {r : List Val} : ZsI (v :: r) 1 ((v :: r).length : Int) = some r := by
  unfold ZsI
  rw [if_pos (by simp; omega)]
  simp
theorem ZyY {v : Val} {r : List Val} : decide (((v :: r).length : Int) > 0) = true := by simp
theorem Zvk {l : List Val} {v : Val} : ZfX (l ++ [v]) (l.length : Int) = some v := Zct (by simp)
theorem Zxu {l : List Val} {v : Val} : ZsI (l ++ [v]) 0 (l.length : Int) = some l := by
  unfold ZsI
  rw [if_pos (by simp; omega)]
  simp
theorem Zrh (l : List Val) : Zf1 (l.length + 1) l = some (spL l) := by
  unfold Zf1
  refine Zm4 _ (fun z => some z) ?_ l _ (Nat.lt_succ_self _)
  intro l k
  cases l with
  | nil => rfl
  | cons v r =>
    simp only [Zff, ZyY, cond_true, Zw2, Option.bind_some, Zk6, sp]
    exact Bool.cond_eq_ite _ _ _
theorem ZtA {K : Zaa} (hK : Zde K) : ZaC U (Zac C K) 67 ⟨true, [.ty 22], [22], fun l => some (spL l)⟩ :=
  Zjn (kf hK 67 (by decide)) _ fun a r h => by cases h; exact ⟨_, Zrh a⟩
def ZxY (l : List Val) : Option (List Val) := if Zaz l ≤ B then some (trL l) else none
theorem Zx9 {l : List Val} (h : Zaz l ≤ B) : ZxY l = some (trL l) := if_pos h
theorem Zv3 {l : List Val} {v : Val} (h : l.length < 2 ^ 62) : IntKind.i64.wrap (((l ++ [v]).length : Int) - 1) = (l.length : Int) := by
  rw [Zeg (by simp <;> omega) (by simp <;> omega)]; simp only [List.length_append, List.length_cons, List.length_nil]; omega
theorem Zzf {v : Val} {r : List Val} : decide (((r ++ [v]).length : Int) > 0) = true := by simp
theorem Zxt (l : List Val) (h : Zaz l ≤ B) : Zib (fun l => some (spL l)) ((spL l).length + 1) l = some (trL l) := by
  have hB : B = 2 ^ 36 := rfl
  unfold Zib
  simp only [Option.bind_some]
  have h1 := Zf2 (spL l)
  have h2 := ZlS l
  refine ZwX _ (fun z => some z) ?_ ?_ _ (spL l) _ rfl (Nat.lt_succ_self _) (by omega)
  · intro k; rfl
  · intro l v k hl
    simp only [ZgX, Zzf, cond_true, Zv3 hl, Zvk, Option.bind_some, Zxu, sp]
    exact Bool.cond_eq_ite _ _ _
theorem Yds {K : Zaa} (hK : Zde K) : ZaC U (Zac C K) 68 ⟨true, [.ty 22], [22], ZxY⟩ :=
  Zlh (kf hK 68 (by decide)) _ (ZtA hK) _ fun a r h => by
    unfold ZxY at h
    split at h
    · rename_i h3; cases h; exact ⟨_, Zxt a h3⟩
    · cases h
end Go.Tev.S1
namespace Go.Tev.S1
open Go.Abs Go.Proofs
def ZmP (v : Val) : Option (List UInt8 × List Val × Bool) := if v.tot ≤ B then some (ZaA v.l) else none
theorem Zlg {v : Val} (h : v.tot ≤ B) : ZmP v = some (ZaA v.l) := if_pos h
theorem Ztq {α : Type} {v : α} {r : List α} : (((v :: r).length : Int) == 0) = false := by simp; omega
theorem ZtW (v : Val) (h : v.tot ≤ B) : Zhf (fun l => some (spL l)) (fun p => some (Zco p)) ZxY 0 v = some (ZaA v.l) := by
  have he := v.tot_eq
  have hs := ZlS v.l
  unfold Zhf ZaA
  simp only [Option.bind_some]
  cases e : spL v.l with
  | nil => rfl
  | cons x r =>
    rw [e] at hs
    simp only [Zaz] at hs
    have hs2 := ZlS r
    simp only [Ztq, Bool.not_false, cond_true, cond_false, Zw2, Option.bind_some, Zk6]
    by_cases h1 : x.tok.k = 1
    · have e1 : (x.tok.k != 1) = false := by simpa using h1
      by_cases h2 : Zco x.tok.t = true
      · rw [if_pos ⟨h1, h2⟩]
        simp only [e1, h2, Bool.not_false, Bool.not_true, cond_true, cond_false, Option.bind_some]
        cases e3 : spL r with
        | nil => rfl
        | cons y s =>
          rw [e3] at hs2
          simp only [Zaz] at hs2
          simp only [Ztq, cond_false, Zw2, Option.bind_some, Zk6, Zx9 (show Zaz s ≤ B by omega)]
          by_cases h4 : y.tok.k = 18
          · rw [if_pos h4, h4]; rfl
          · have e4 : (y.tok.k == 18) = false := by simpa using h4
            rw [if_neg h4, e4]; rfl
      · rw [if_neg (fun hh => h2 hh.2)]
        have h2' : Zco x.tok.t = false := (Bool.not_eq_true _).mp h2
        simp only [e1, h2', Bool.not_false, cond_true, cond_false, Option.bind_some]
    · have e1 : (x.tok.k != 1) = true := by simpa using h1
      rw [if_neg (fun hh => h1 hh.1)]
      simp only [e1, Bool.not_true, cond_true, cond_false, Option.bind_some]
theorem Zq6 {K : Zaa} (hK : Zde K) : ZaC U (Zac C K) 56 ⟨true, [.ty 51], [9, 22, 4], ZmP⟩ :=
  Zj3 (kf hK 56 (by decide)) _ _ _ (ZtA hK) (Ztt hK) (Yds hK) _ fun a r h => by
    unfold ZmP at h
    split at h
    · rename_i h3; cases h; exact ⟨0, ZtW a h3⟩
    · cases h
end Go.Tev.S1
namespace Go.Tev
open Go.Abs
abbrev V : Nat := 2 ^ 24
abbrev Lk := List UInt8 → Option (List Val)
theorem Zrp (v : Val) (r : List Val) : Zaz r < Zaz (v :: r) := by
  simp only [Zaz, Val.tot_eq]; omega
theorem ZsL (v : Val) (r : List Val) : Zaz v.l < Zaz (v :: r) := by
  simp only [Zaz, Val.tot_eq]; omega
theorem Zld (v : Val) (r : List Val) : Zaz (ZaA v.l).2.1 < Zaz (v :: r) :=
  Nat.lt_of_le_of_lt (ZiC v.l) (ZsL v r)
def Zji (a b : Option Nat) : Option Nat := match a, b with
  | some m, some n => some (m + n)
  | _, _ => none
theorem ZeJ {a b : Option Nat} {n : Nat} (h : Zji a b = some n) : ∃ x y, a = some x ∧ b = some y ∧ n = x + y := by
  unfold Zji at h
  split at h
  · exact ⟨_, _, rfl, rfl, (Option.some.inj h).symm⟩
  · cases h
def ZeH (lk : Lk) : List Val → Option Nat
  | [] => some 0
  | v :: r => Zji (if v.ref then (match lk (ZaA v.l).1 with
      | some x => some (Zaz x)
      | none => if (ZaA v.l).2.2 then ZeH lk (ZaA v.l).2.1 else none)
    else Zji (some (1 + v.tok.t.length + v.tok.u.length)) (ZeH lk v.l)) (ZeH lk r)
termination_by l => Zaz l
decreasing_by
  · exact Zld v r
  · exact ZsL v r
  · exact Zrp v r
def ZqV (lk : Lk) (v : Val) : Option Nat := if v.ref then (match lk (ZaA v.l).1 with
      | some x => some (Zaz x)
      | none => if (ZaA v.l).2.2 then ZeH lk (ZaA v.l).2.1 else none)
    else Zji (some (1 + v.tok.t.length + v.tok.u.length)) (ZeH lk v.l)
theorem Zjd {lk : Lk} {v : Val} (h : v.ref = false) : ZqV lk v = Zji (some (1 + v.tok.t.length + v.tok.u.length)) (ZeH lk v.l) := by
  unfold ZqV; rw [if_neg (by rw [h]; decide)]
theorem Zns {lk : Lk} {v : Val} {x : List Val} (h : v.ref = true) (h2 : lk (ZaA v.l).1 = some x) : ZqV lk v = some (Zaz x) := by
  unfold ZqV; rw [if_pos h, h2]
theorem Zou {lk : Lk} {v : Val} (h : v.ref = true) (h2 : lk (ZaA v.l).1 = none) (h3 : (ZaA v.l).2.2 = true) : ZqV lk v = ZeH lk (ZaA v.l).2.1 := by
  unfold ZqV; rw [if_pos h, h2]; simp only [h3, if_true]
theorem ZsS {lk : Lk} {v : Val} (h : v.ref = true) (h2 : lk (ZaA v.l).1 = none) (h3 : (ZaA v.l).2.2 = false) : ZqV lk v = none := by
  unfold ZqV; rw [if_pos h, h2]; simp [h3]
theorem Zb7 (lk : Lk) : ZeH lk [] = some 0 := by rw [ZeH]
theorem ZbG (lk : Lk) (v : Val) (r : List Val) : ZeH lk (v :: r) = Zji (ZqV lk v) (ZeH lk r) := by rw [ZeH]; rfl
theorem Zuo (a b c : Option Nat) : Zji (Zji a b) c = Zji a (Zji b c) := by
  cases a <;> cases b <;> cases c <;> simp [Zji, Nat.add_assoc]
theorem ZvN (a : Option Nat) : Zji (some 0) a = a := by cases a <;> simp [Zji]
theorem Zuk (a : Option Nat) : Zji a (some 0) = a := by cases a <;> simp [Zji]
theorem Zh8 (lk : Lk) (a b : List Val) : ZeH lk (a ++ b) = Zji (ZeH lk a) (ZeH lk b) := by
  induction a with
  | nil => rw [Zb7, ZvN]; rfl
  | cons v a ih => rw [List.cons_append, ZbG, ZbG, ih, Zuo]
theorem ZuS (lk : Lk) (a : List Val) (v : Val) : ZeH lk (a ++ [v]) = Zji (ZeH lk a) (ZqV lk v) := by
  rw [Zh8, ZbG, Zb7, Zuk]
def Zei (lk : Lk) : List Val → List Val
  | [] => []
  | v :: r => (if v.ref then (match lk (ZaA v.l).1 with
      | some x => x
      | none => Zei lk (ZaA v.l).2.1)
    else [Val.mk v.tok (Zei lk v.l)]) ++ Zei lk r
termination_by l => Zaz l
decreasing_by
  · exact Zld v r
  · exact ZsL v r
  · exact Zrp v r
def Zty (lk : Lk) (v : Val) : List Val := if v.ref then (match lk (ZaA v.l).1 with
      | some x => x
      | none => Zei lk (ZaA v.l).2.1)
    else [Val.mk v.tok (Zei lk v.l)]
theorem Zq1 {lk : Lk} {v : Val} (h : v.ref = false) : Zty lk v = [Val.mk v.tok (Zei lk v.l)] := by
  unfold Zty; rw [if_neg (by rw [h]; decide)]
theorem ZsM {lk : Lk} {v : Val} {x : List Val} (h : v.ref = true) (h2 : lk (ZaA v.l).1 = some x) : Zty lk v = x := by
  unfold Zty; rw [if_pos h, h2]
theorem Ztl {lk : Lk} {v : Val} (h : v.ref = true) (h2 : lk (ZaA v.l).1 = none) : Zty lk v = Zei lk (ZaA v.l).2.1 := by
  unfold Zty; rw [if_pos h, h2]
theorem Zd5 (lk : Lk) : Zei lk [] = [] := by rw [Zei]
theorem Zc2 (lk : Lk) (v : Val) (r : List Val) : Zei lk (v :: r) = Zty lk v ++ Zei lk r := by rw [Zei]; rfl
theorem ZrI (lk : Lk) (a b : List Val) : Zei lk (a ++ b) = Zei lk a ++ Zei lk b := by
  induction a with
  | nil => rw [Zd5]; rfl
  | cons v a ih => rw [List.cons_append, Zc2, Zc2, ih, List.append_assoc]
theorem ZpR (lk : Lk) (a : List Val) (v : Val) : Zei lk (a ++ [v]) = Zei lk a ++ Zty lk v := by
  rw [ZrI, Zc2, Zd5, List.append_nil]
theorem ZfT (P : List Val → Prop) (h0 : P []) (h1 : ∀ v r, P r → P v.l → P (ZaA v.l).2.1 → P (v :: r)) : ∀ l, P l := by
  have : ∀ (n : Nat) l, Zaz l < n → P l := by
    intro n
    induction n with
    | zero => intro l h; omega
    | succ n ih =>
      intro l h
      cases l with
      | nil => exact h0
      | cons v r =>
        have a1 := Zrp v r
        have a2 := ZsL v r
        have a3 := Zld v r
        exact h1 v r (ih _ (by omega)) (ih _ (by omega)) (ih _ (by omega))
  exact fun l => this _ l (Nat.lt_succ_self _)
theorem Zxf (lk : Lk) : ∀ l m, ZeH lk l = some m → Zaz (Zei lk l) = m := by
  refine ZfT _ ?_ ?_
  · intro m h
    rw [Zb7] at h
    cases h
    rw [Zd5]; rfl
  · intro v r h1 h2 h3 m h
    rw [ZbG] at h
    obtain ⟨x, y, hx, hy, rfl⟩ := ZeJ h
    rw [Zc2, ZdQ, h1 y hy]
    congr 1
    unfold ZqV at hx
    unfold Zty
    split at hx
    · rename_i hv
      rw [if_pos hv]
      split at hx
      · rename_i z hz
        exact Option.some.inj hx
      · rename_i hz
        split at hx
        · exact h3 x hx
        · cases hx
    · rename_i hv
      rw [if_neg hv]
      obtain ⟨a, b, ha, hb, rfl⟩ := ZeJ hx
      cases ha
      simp only [Zaz, Val.tot, h2 b hb]
      rfl
theorem YdV (lk : Lk) (W : Nat) (hW : 1 ≤ W) (hlk : ∀ n x, lk n = some x → Zaz x ≤ W) : ∀ l m, ZeH lk l = some m → m ≤ Zaz l * W := by
  refine ZfT _ ?_ ?_
  · intro m h
    rw [Zb7] at h
    cases h
    omega
  · intro v r h1 h2 h3 m h
    rw [ZbG] at h
    obtain ⟨x, y, hx, hy, rfl⟩ := ZeJ h
    have hr := h1 y hy
    simp only [Zaz, Nat.add_mul]
    suffices x ≤ v.tot * W by omega
    have ht : 1 * W ≤ v.tot * W := Nat.mul_le_mul_right _ (by rw [Val.tot_eq]; omega)
    unfold ZqV at hx
    split at hx
    · split at hx
      · rename_i z hz
        have := hlk _ _ hz
        cases hx
        omega
      · split at hx
        · have h4 := h3 x hx
          have h5 : Zaz (ZaA v.l).2.1 * W ≤ v.tot * W := Nat.mul_le_mul_right _ (by have := ZiC v.l; rw [Val.tot_eq]; omega)
          omega
        · cases hx
    · obtain ⟨a, b, ha, hb, rfl⟩ := ZeJ hx
      cases ha
      have h4 := h2 b hb
      rw [Val.tot_eq, Nat.add_mul (1 + v.tok.t.length + v.tok.u.length)]
      have h5 : (1 + v.tok.t.length + v.tok.u.length) * 1 ≤ (1 + v.tok.t.length + v.tok.u.length) * W := Nat.mul_le_mul_left _ hW
      omega
theorem Zkx (lk : Lk) : ∀ l, ZbD l = false → Zei lk l = l := by
  refine ZfT _ ?_ ?_
  · intro h; exact Zd5 lk
  · intro v r h1 h2 h3 h
    rw [ZbD, Bool.or_eq_false_iff, Val.hasv_eq, Bool.or_eq_false_iff] at h
    rw [Zc2, h1 h.2, Zty, if_neg (by rw [h.1.1]; decide), h2 h.1.2, Val.eta]
    rfl
theorem ZiD (lk : Lk) : ∀ l, ZbD l = false → ZeH lk l = some (Zaz l) := by
  refine ZfT _ ?_ ?_
  · intro h; exact Zb7 lk
  · intro v r h1 h2 h3 h
    rw [ZbD, Bool.or_eq_false_iff, Val.hasv_eq, Bool.or_eq_false_iff] at h
    rw [ZbG, h1 h.2, ZqV, if_neg (by rw [h.1.1]; decide), h2 h.1.2]
    simp only [Zji, Zaz, Val.tot_eq]
def lkM (m : List (List UInt8 × List Val)) : Lk := fun n => Zbu BEq.beq n m
def lkC : List Cus → Lk
  | [], _ => none
  | c :: r, n => if c.name == n then some c.val else lkC r n
def ZdP : List Cus → List UInt8 → Int → Int
  | [], _, _ => -1
  | c :: r, n, i => if c.name == n then i else ZdP r n (i + 1)
theorem Zxh {m : List (List UInt8 × List Val)} {n : List UInt8} {x : List Val} (h : lkM m n = some x) : ∃ p ∈ m, p.2 = x := by
  induction m with
  | nil => cases h
  | cons p m ih =>
    obtain ⟨k, v⟩ := p
    simp only [lkM, Zbu] at h
    cases e : (n == k) <;> rw [e] at h
    · obtain ⟨q, hq, hx⟩ := ih h
      exact ⟨q, List.mem_cons_of_mem _ hq, hx⟩
    · cases h
      exact ⟨_, List.mem_cons_self, rfl⟩
theorem YbQ {c : List Cus} {n : List UInt8} {x : List Val} (h : lkC c n = some x) : ∃ p ∈ c, p.val = x := by
  induction c with
  | nil => cases h
  | cons p m ih =>
    simp only [lkC] at h
    split at h
    · cases h; exact ⟨_, List.mem_cons_self, rfl⟩
    · obtain ⟨q, hq, hx⟩ := ih h
      exact ⟨q, List.mem_cons_of_mem _ hq, hx⟩
end Go.Tev
namespace Go.Tev
open Go.Abs
section
variable {x : Cx} {ρ : List Rf} {h0 : Base} {s : TSt x.X} {a : St}
def LawP (x : Cx) (h0 : Base) (call : Zaa) (fa : FA) (n m : Nat) (c : Code) {R : Type} (L : Yba x.U R) : Prop := ∀ (k : TOut x.X → Option R) (s : TSt x.X) (z : R), s.tmp = [] → L k s = some z → ∀ e0 ρ a, (∀ t, (Zab s.env t).isSome = true → (Zab e0 t).isSome = true) → Rel x.U ρ h0 s a →
  ∃ o' o σ, k o' = some z ∧ iter (evQ x.C call fa n c) e0 m a = some o ∧ TORel x σ h0 o' o
end
section
variable {C : Ctx} {call : Zaa} {fa : FA}
theorem Zk7 {f : St → Option Out} {e0 : List (Nat × SV)} : ∀ (m : Nat) (st : St) (o : Out), iter f e0 m st = some o → iter f e0 (m + 1) st = some o
  | 0, st, o, h => by cases h
  | m + 1, st, o, h => by
    rw [iter] at h ⊢
    split at h
    · exact Zk7 m _ o h
    · exact h
theorem ZtF (n : Nat) : ∀ (c : Code) (st : St) (o : Out), evQ C call fa n c st = some o → evQ C call fa (n + 1) c st = some o := by
  intro c
  induction c with
  | seq p q ihp ihq =>
    intro st o h
    simp only [evQ] at h ⊢
    split at h
    · rename_i st' hs
      rw [ihp _ _ hs]
      exact ihq _ _ h
    · rename_i r hn
      rw [ihp _ _ h]
      split
      · rename_i st' hs
        cases hs
        exact absurd h (hn st')
      · rfl
  | cond c p q ihp ihq =>
    intro st o h
    simp only [evQ] at h ⊢
    split at h
    · rename_i t ht
      cases t with
      | true => exact ihp _ _ h
      | false => exact ihq _ _ h
    · cases h
  | block i c ih =>
    intro st o h
    simp only [evQ] at h ⊢
    cases hq : evQ C call fa n c st with
    | none => rw [hq] at h; cases h
    | some o1 =>
      rw [hq] at h
      rw [ih _ _ hq]
      exact h
  | loop c ih =>
    intro st o h
    simp only [evQ] at h ⊢
    exact Zk7 _ _ _ (Zid (fun st o hh => ih st o hh) _ _ _ h)
  | _ => intro st o h; exact h
end
section
variable {x : Cx} {h0 : Base}
theorem LawP.succ {call : Zaa} {fa : FA} {n m : Nat} {c : Code} {R : Type} {L : Yba x.U R} (h : LawP x h0 call fa n m c L) : LawP x h0 call fa (n + 1) m c L := fun k s z ht hz e0 ρ a hc r => by
  obtain ⟨o', o, σ, h1, h2, h3⟩ := h k s z ht hz e0 ρ a hc r
  exact ⟨o', o, σ, h1, Zid (fun st o hh => ZtF n c st o hh) _ _ _ h2, h3⟩
theorem Law.succ {call : Zaa} {fa : FA} {n : Nat} {c : Code} {R : Type} {L : Yba x.U R} (h : Law x h0 call fa n c L) : Law x h0 call fa (n + 1) c L := fun k s z ht hz ρ a r => by
  obtain ⟨o', o, σ, h1, h2, h3⟩ := h k s z ht hz ρ a r
  exact ⟨o', o, σ, h1, Zk7 _ _ _ (Zid (fun st o hh => ZtF n c st o hh) _ _ _ h2), h3⟩
end
end Go.Tev
namespace Go.Tev.S1
open Go.Abs Go.Proofs
abbrev T3a : Type := Val → Option Bool
abbrev T3b : Type := Val → Option ((List UInt8) × (List Val) × Bool)
abbrev T3c : Type := (List Val) → ((List ((List UInt8) × Bool)) × Unit) → Option ((Unit) × ((List ((List UInt8) × Bool)) × Unit))
abbrev T3d : Type := List ((List UInt8) × Bool)
abbrev T3e : Type := (List Val) × (List ((List UInt8) × (List Val))) → Option Int
abbrev T3f : Type := (List Val) → Option Int
abbrev T3g : Type := (List Val) × (List ((List UInt8) × (List Val))) → Option (List Val)
abbrev T3h : Type := (List Val) → Option Bool
abbrev T3i : Type := (List Cus) → Option Int
abbrev T3j : Type := (List Cus) → Option (List ((List UInt8) × (List Val)))
abbrev T3k : Type := (List Val) × (List ((List UInt8) × (List Val))) → Option ((List Val) × Int)
abbrev P3a (K : Zaa) (t : T3a) : Prop := ZaC U (Zac C K) 55 ⟨true, [.ty 51], [4], t⟩
abbrev P3b (K : Zaa) (t : T3b) : Prop := ZaC U (Zac C K) 56 ⟨true, [.ty 51], [9, 22, 4], t⟩
abbrev P3c (K : Zaa) (t : T3e) : Prop := ZaC U (Zac C K) 53 ⟨true, [.ty 22, .ty 60], [3], t⟩
abbrev P3d (K : Zaa) (t : T3f) : Prop := ZaC U (Zac C K) 44 ⟨true, [.ty 22], [3], t⟩
abbrev P3e (K : Zaa) (t : T3g) : Prop := ZaC U (Zac C K) 54 ⟨true, [.ty 22, .ty 60], [22], t⟩
abbrev P3f (K : Zaa) (t : T3h) : Prop := ZaC U (Zac C K) 14 ⟨true, [.ty 22], [4], t⟩
abbrev P3g (K : Zaa) (t : T3f) : Prop := ZaC U (Zac C K) 33 ⟨true, [.ty 22], [28], t⟩
abbrev P3h (K : Zaa) (t : T3i) : Prop := ZaC U (Zac C K) 22 ⟨true, [.ty 23], [28], t⟩
abbrev P3i (K : Zaa) (t : T3j) : Prop := ZaC U (Zac C K) 35 ⟨false, [.ty 23], [60], t⟩
abbrev P3j (K : Zaa) (t : T3k) : Prop := ZaC U (Zac C K) 34 ⟨true, [.ty 22, .ty 60], [22, 28], t⟩
def Zdw (qa : T3a) (qb : T3b) (qc : T3c) {R : Type} (n : Nat) (_ : Unit) (a9 : List Val) (a10 : Int) (kx0 : (List ((List UInt8) × Bool)) → Option R) (y11 : Int) (h1 : List ((List UInt8) × Bool)) (k : Int → (List ((List UInt8) × Bool)) → Option R) : Option R :=
  cond (decide (y11 < a10))
  (Option.bind (ZfX a9 y11) fun x2 =>
  Option.bind (qa (Val.mk x2.tok x2.l)) fun r3 =>
  Option.bind (cond r3 (qb (Val.mk x2.tok x2.l)) (some ([], [], false))) fun r4 =>
  Option.bind (some (cond (r4.1 != []) x2.tok.k x2.tok.k)) fun m5 =>
  Option.bind (some (cond (r4.1 != []) x2.tok.t x2.tok.t)) fun m6 =>
  Option.bind (some (cond (r4.1 != []) x2.tok.n x2.tok.n)) fun m7 =>
  Option.bind (some (cond (r4.1 != []) x2.tok.u x2.tok.u)) fun m8 =>
  Option.bind (some (cond (r4.1 != []) x2.tok.f x2.tok.f)) fun m9 =>
  Option.bind (some (cond (r4.1 != []) x2.l x2.l)) fun m10 =>
  Option.bind (some (cond (r4.1 != []) (Zgu BEq.beq r4.1 true h1) h1)) fun m11 =>
  Option.bind (some (cond r3 m5 x2.tok.k)) fun m12 =>
  Option.bind (some (cond r3 m6 x2.tok.t)) fun m13 =>
  Option.bind (some (cond r3 m7 x2.tok.n)) fun m14 =>
  Option.bind (some (cond r3 m8 x2.tok.u)) fun m15 =>
  Option.bind (some (cond r3 m9 x2.tok.f)) fun m16 =>
  Option.bind (some (cond r3 m10 x2.l)) fun m17 =>
  Option.bind (some (cond r3 m11 h1)) fun m18 =>
  Option.bind (qc m17 (m18, ())) fun w19 =>
  k (IntKind.i64.wrap (y11 + (1 : Int))) w19.2.1)
  (kx0 h1)
def Ze7 (qa : T3a) (qb : T3b) (qc : T3c) (n : Nat) (p0 : List Val) (q1 : T3d) : Option ((Unit) × ((List ((List UInt8) × Bool)) × Unit)) :=
  Zhy (Zdw qa qb qc n () p0 (p0.length : Int) (fun z1 =>
  some ((), (z1, ())))) n (0 : Int) q1
abbrev Zmf (qa : T3a) (qb : T3b) (qc : T3c) : List (Nat × TCall X) := [(55, ⟨true, [.ty 51], [4], qa⟩), (56, ⟨true, [.ty 51], [9, 22, 4], qb⟩)]
noncomputable abbrev Zcb (qa : T3a) (qb : T3b) (qc : T3c) : Cx := ⟨C, U, Zmf qa qb qc, [(36, ⟨[.ty 22, .ref (.map 9 4)], [], qc⟩)], fun _ => []⟩
theorem ZkF : okF (C.ann 36) Tryz.f36 2 = true := by kernel_rfl
abbrev vars_collect_L0_D : LD := ⟨1, [.mp 1 0, .val 9 22, .val 10 2], [.val 11 2, .hmap 9 4], [(0, [.hmap 9 4])], []⟩
abbrev ZcX (qa : T3a) (qb : T3b) (qc : T3c) (n : Nat) : LG U (PX X [] × PR' X (AR.refs [.ty 22, .ref (.map 9 4)])) vars_collect_L0_D := fun c kx kr y k => Zdw qa qb qc n c.1 c.2.1 c.2.2.1 (fun z0 => kx 0 (z0, ())) y.1 y.2.1 (fun z0 z1 => k (z0, z1, ()))
noncomputable abbrev ZcW (qa : T3a) (qb : T3b) (qc : T3c) (n : Nat) : ZfY (Zcb qa qb qc) (PX X [] × PR' X (AR.refs [.ty 22, .ref (.map 9 4)])) := [(0, Zgy U vars_collect_L0_D (ZcX qa qb qc n) n)]
theorem Zjz (qa : T3a) (qb : T3b) (qc : T3c) (n : Nat) : ∀ c kx kr y k1, evL (Zcb qa qb qc) (ann 36) (ZcW qa qb qc n) 0 (ZaH (Zad Tryz.f36) 0) (Zfx U vars_collect_L0_D kx kr k1) (encS U vars_collect_L0_D.cap vars_collect_L0_D.din c y) = ZcX qa qb qc n c (fun i z => kx i c z) kr y (fun y2 => k1 c y2) := by
  intro c kx kr y k1
  kernel_rfl
theorem Zmp (qa : T3a) (qb : T3b) (qc : T3c) (n : Nat) : ∀ a cs, fnR (Zcb qa qb qc) 36 Tryz.f36 [.ty 22, .ref (.map 9 4)] [] (ZcW qa qb qc n) a cs = Ze7 qa qb qc n a cs.1 := by
  intro a cs
  kernel_rfl
theorem ZgR {K : Zaa} (qa : T3a) (qb : T3b) (qc : T3c) (h0 : P3a K qa) (h1 : P3b K qb) (g0 : Zee U (Zac C K) 36 ⟨[.ty 22, .ref (.map 9 4)], [], qc⟩) : CallsOk (Zcb qa qb qc) (Zac C K) :=
  ⟨(Zap h0 (Zap h1 Zbc)), (Zxc g0 Zbb)⟩
theorem ZhS {K : Zaa} (qa : T3a) (qb : T3b) (qc : T3c) (h0 : P3a K qa) (h1 : P3b K qb) (g0 : Zee U (Zac C K) 36 ⟨[.ty 22, .ref (.map 9 4)], [], qc⟩) (n : Nat) (b0 : Base) (bn0 : b0.nr ≤ 1) : Law (Zcb qa qb qc) b0 (Zac C K) (ann 36) n (ZaH (Zad Tryz.f36) 0) (Zgy U vars_collect_L0_D (ZcX qa qb qc n) n) :=
  Zen (x := Zcb qa qb qc) (id := 0) ok (ZgR qa qb qc h0 h1 g0) (sums := ZcW qa qb qc n) (ZaR (show ZaD 0 (ZaH (Zad Tryz.f36) 0) = [] by kernel_rfl)) vars_collect_L0_D bn0 (ZcX qa qb qc n) (Zjz qa qb qc n)
theorem Ziw {K : Zaa} (hK : ∀ args h, K 36 args h = none) (qa : T3a) (qb : T3b) (qc : T3c) (h0 : P3a K qa) (h1 : P3b K qb) (g0 : Zee U (Zac C K) 36 ⟨[.ty 22, .ref (.map 9 4)], [], qc⟩) (t : PX X (AR.tys [.ty 22, .ref (.map 9 4)]) → PR' X (AR.refs [.ty 22, .ref (.map 9 4)]) → Option (PX X [] × PR' X (AR.refs [.ty 22, .ref (.map 9 4)]))) (h : ∀ a cs r, t a cs = some r → ∃ n, Ze7 qa qb qc n a cs.1 = some r) : Zee U (Zac C K) 36 ⟨[.ty 22, .ref (.map 9 4)], [], t⟩ := by
  refine ZwO (x := Zcb qa qb qc) (ak := [.ty 22, .ref (.map 9 4)]) (rts := []) ok (ZgR qa qb qc h0 h1 g0) hK Tryz.func36 ZkF fun a cs r hr => ?_
  obtain ⟨n, hn⟩ := h a cs r hr
  exact ⟨n, ZcW qa qb qc n, fun b0 bn0 => (Zci (ids := [0]) (by kernel_rfl) (by decide) (fun i hi => by
    simp only [List.mem_cons, List.not_mem_nil, or_false] at hi
    rcases hi with rfl
    · exact Zch (c2 := ZaH (Zad Tryz.f36) 0) (by kernel_rfl) (by kernel_rfl) (ZhS qa qb qc h0 h1 g0 _ b0 bn0)
    )), (Zmp qa qb qc n a cs).trans hn⟩
def Zdu (qa : T3a) (qd : T3e) (qb : T3b) (qe : T3f) {R : Type} (n : Nat) (a1 : List ((List UInt8) × (List Val))) (a14 : List Val) (a15 : Int) (kx0 : Int → Int → Option R) (kr : Int → Option R) (y4 : Int) (y5 : Int) (y16 : Int) (k : Int → Int → Int → Option R) : Option R :=
  cond (decide (y16 < a15))
  (Option.bind (ZfX a14 y16) fun x4 =>
  Option.bind (qa (Val.mk x4.tok x4.l)) fun r5 =>
  Option.bind (cond (!r5) (qd (x4.l, a1)) (some (0 : Int))) fun r6 =>
  Option.bind (cond (!(!r5)) (qb (Val.mk x4.tok x4.l)) (some ([], [], false))) fun r7 =>
  Option.bind (cond ((!(!r5)) && ((Zbu BEq.beq r7.1 a1).isSome)) (qe (Zki [] (Zbu BEq.beq r7.1 a1))) (some (0 : Int))) fun r8 =>
  Option.bind (cond (((!(!r5)) && (!((Zbu BEq.beq r7.1 a1).isSome))) && r7.2.2) (qd (r7.2.1, a1)) (some (0 : Int))) fun r9 =>
  Option.bind (some (cond r7.2.2 x4.tok.k x4.tok.k)) fun m10 =>
  Option.bind (some (cond r7.2.2 x4.tok.t x4.tok.t)) fun m11 =>
  Option.bind (some (cond r7.2.2 x4.tok.n x4.tok.n)) fun m12 =>
  Option.bind (some (cond r7.2.2 x4.tok.u x4.tok.u)) fun m13 =>
  Option.bind (some (cond r7.2.2 x4.tok.f x4.tok.f)) fun m14 =>
  Option.bind (some (cond r7.2.2 x4.l x4.l)) fun m15 =>
  Option.bind (some (cond r7.2.2 r9 (-1 : Int))) fun m16 =>
  Option.bind (some (cond ((Zbu BEq.beq r7.1 a1).isSome) x4.tok.k m10)) fun m17 =>
  Option.bind (some (cond ((Zbu BEq.beq r7.1 a1).isSome) x4.tok.t m11)) fun m18 =>
  Option.bind (some (cond ((Zbu BEq.beq r7.1 a1).isSome) x4.tok.n m12)) fun m19 =>
  Option.bind (some (cond ((Zbu BEq.beq r7.1 a1).isSome) x4.tok.u m13)) fun m20 =>
  Option.bind (some (cond ((Zbu BEq.beq r7.1 a1).isSome) x4.tok.f m14)) fun m21 =>
  Option.bind (some (cond ((Zbu BEq.beq r7.1 a1).isSome) x4.l m15)) fun m22 =>
  Option.bind (some (cond ((Zbu BEq.beq r7.1 a1).isSome) r8 m16)) fun m23 =>
  Option.bind (some (cond (!r5) (IntKind.i64.wrap (y5 + (IntKind.i64.wrap ((IntKind.i64.wrap ((1 : Int) + (x4.tok.t.length : Int))) + (x4.tok.u.length : Int))))) y5)) fun m24 =>
  Option.bind (some (cond (!r5) x4.tok.k m17)) fun m25 =>
  Option.bind (some (cond (!r5) x4.tok.t m18)) fun m26 =>
  Option.bind (some (cond (!r5) x4.tok.n m19)) fun m27 =>
  Option.bind (some (cond (!r5) x4.tok.u m20)) fun m28 =>
  Option.bind (some (cond (!r5) x4.tok.f m21)) fun m29 =>
  Option.bind (some (cond (!r5) x4.l m22)) fun m30 =>
  Option.bind (some (cond (!r5) r6 m23)) fun m31 =>
  cond (decide (m31 < (0 : Int)))
  (kr (-1 : Int))
  (k y4 (IntKind.i64.wrap (m24 + m31)) (IntKind.i64.wrap (y16 + (1 : Int)))))
  (kx0 y4 y5)
def Zfc (qa : T3a) (qd : T3e) (qb : T3b) (qe : T3f) (n : Nat) (p0 : List Val) (p1 : List ((List UInt8) × (List Val))) : Option Int :=
  ZqY (Zdu qa qd qb qe n p1 p0 (p0.length : Int) (fun z1 z2 =>
  some z2) (fun z3 =>
  some z3)) n (0 : Int) (0 : Int) (0 : Int)
abbrev Zme (qa : T3a) (qd : T3e) (qb : T3b) (qe : T3f) : List (Nat × TCall X) := [(55, ⟨true, [.ty 51], [4], qa⟩), (53, ⟨true, [.ty 22, .ty 60], [3], qd⟩), (56, ⟨true, [.ty 51], [9, 22, 4], qb⟩), (44, ⟨true, [.ty 22], [3], qe⟩)]
noncomputable abbrev Zcd (qa : T3a) (qd : T3e) (qb : T3b) (qe : T3f) : Cx := ⟨C, U, Zme qa qd qb qe, [], fun _ => []⟩
theorem ZkL : okF (C.ann 53) Tryz.f53 2 = true := by kernel_rfl
abbrev vars_measure_L0_D : LD := ⟨0, [.val 1 60, .val 14 22, .val 15 2], [.val 4 2, .val 5 2, .val 16 2], [(0, [.val 4 2, .val 5 2])], [.val 4 3]⟩
abbrev ZcV (qa : T3a) (qd : T3e) (qb : T3b) (qe : T3f) (n : Nat) : LG U (PX X [3]) vars_measure_L0_D := fun c kx kr y k => Zdu qa qd qb qe n c.1 c.2.1 c.2.2.1 (fun z0 z1 => kx 0 (z0, z1, ())) (fun z0 => kr (z0, ())) y.1 y.2.1 y.2.2.1 (fun z0 z1 z2 => k (z0, z1, z2, ()))
noncomputable abbrev ZcT (qa : T3a) (qd : T3e) (qb : T3b) (qe : T3f) (n : Nat) : ZfY (Zcd qa qd qb qe) (PX X [3]) := [(0, Zgy U vars_measure_L0_D (ZcV qa qd qb qe n) n)]
theorem Zjb (qa : T3a) (qd : T3e) (qb : T3b) (qe : T3f) (n : Nat) : ∀ c kx kr y k1, evL (Zcd qa qd qb qe) (ann 53) (ZcT qa qd qb qe n) 0 (ZaH (Zad Tryz.f53) 0) (Zfx U vars_measure_L0_D kx kr k1) (encS U vars_measure_L0_D.cap vars_measure_L0_D.din c y) = ZcV qa qd qb qe n c (fun i z => kx i c z) kr y (fun y2 => k1 c y2) := by
  intro c kx kr y k1
  kernel_rfl
theorem Zmi (qa : T3a) (qd : T3e) (qb : T3b) (qe : T3f) (n : Nat) : ∀ a, fnL (Zcd qa qd qb qe) true 53 Tryz.f53 [.ty 22, .ty 60] [3] (ZcT qa qd qb qe n) a = Zfc qa qd qb qe n a.1 a.2 := by
  intro a
  kernel_rfl
theorem ZgU {K : Zaa} (qa : T3a) (qd : T3e) (qb : T3b) (qe : T3f) (h0 : P3a K qa) (h1 : P3c K qd) (h2 : P3b K qb) (h3 : P3d K qe) : CallsOk (Zcd qa qd qb qe) (Zac C K) :=
  ⟨(Zap h0 (Zap h1 (Zap h2 (Zap h3 Zbc)))), Zbb⟩
theorem ZhY {K : Zaa} (qa : T3a) (qd : T3e) (qb : T3b) (qe : T3f) (h0 : P3a K qa) (h1 : P3c K qd) (h2 : P3b K qb) (h3 : P3d K qe) (n : Nat) (b0 : Base) (bn0 : b0.nr ≤ 0) : Law (Zcd qa qd qb qe) b0 (Zac C K) (ann 53) n (ZaH (Zad Tryz.f53) 0) (Zgy U vars_measure_L0_D (ZcV qa qd qb qe n) n) :=
  Zen (x := Zcd qa qd qb qe) (id := 0) ok (ZgU qa qd qb qe h0 h1 h2 h3) (sums := ZcT qa qd qb qe n) (ZaR (show ZaD 0 (ZaH (Zad Tryz.f53) 0) = [] by kernel_rfl)) vars_measure_L0_D bn0 (ZcV qa qd qb qe n) (Zjb qa qd qb qe n)
theorem ZiF {K : Zaa} (hK : ∀ args h, K 53 args h = none) (qa : T3a) (qd : T3e) (qb : T3b) (qe : T3f) (h0 : P3a K qa) (h1 : P3c K qd) (h2 : P3b K qb) (h3 : P3d K qe) (t : PX X (AK.tys [.ty 22, .ty 60]) → Option (PX X [3])) (h : ∀ a r, t a = some r → ∃ n, Zfc qa qd qb qe n a.1 a.2 = some r) : ZaC U (Zac C K) 53 ⟨true, [.ty 22, .ty 60], [3], t⟩ := by
  refine ZaY (x := Zcd qa qd qb qe) (ak := [.ty 22, .ty 60]) (rts := [3]) (dir := true) ok (ZgU qa qd qb qe h0 h1 h2 h3) hK Tryz.func53 ZkL fun a r hr => ?_
  obtain ⟨n, hn⟩ := h a r hr
  exact ⟨n, ZcT qa qd qb qe n, (Zci (ids := [0]) (by kernel_rfl) (by decide) (fun i hi => by
    simp only [List.mem_cons, List.not_mem_nil, or_false] at hi
    rcases hi with rfl
    · exact Zch (c2 := ZaH (Zad Tryz.f53) 0) (by kernel_rfl) (by kernel_rfl) (ZhY qa qd qb qe h0 h1 h2 h3 _ _ (Nat.le_refl _))
    )), (Zmi qa qd qb qe n a).trans hn⟩
def ZfS (qa : T3a) (qf : T3g) (qb : T3b) {R : Type} (n : Nat) (a1 : List ((List UInt8) × (List Val))) (a4 : List Val) (a13 : List Val) (a14 : Int) (kx0 : List Val → Option R) (y5 : List Val) (y15 : Int) (k : List Val → Int → Option R) : Option R :=
  cond (decide (y15 < a14))
  (Option.bind (ZfX a13 y15) fun x2 =>
  Option.bind (qa (Val.mk x2.tok x2.l)) fun r3 =>
  cond (!r3)
  (Option.bind (qf (x2.l, a1)) fun r4 =>
  Option.bind (Option.bind (room 80 (y5.length + [(Val.mk x2.tok r4)].length)) (fun _ => some (y5 ++ [(Val.mk x2.tok r4)]))) fun o5 =>
  k o5 (IntKind.i64.wrap (y15 + (1 : Int))))
  (Option.bind (qb (Val.mk x2.tok x2.l)) fun r6 =>
  Option.bind (some (cond ((Zbu BEq.beq r6.1 a1).isSome) y5 y5)) fun m7 =>
  Option.bind (some (cond ((Zbu BEq.beq r6.1 a1).isSome) x2.tok.k x2.tok.k)) fun m8 =>
  Option.bind (some (cond ((Zbu BEq.beq r6.1 a1).isSome) x2.tok.t x2.tok.t)) fun m9 =>
  Option.bind (some (cond ((Zbu BEq.beq r6.1 a1).isSome) x2.tok.n x2.tok.n)) fun m10 =>
  Option.bind (some (cond ((Zbu BEq.beq r6.1 a1).isSome) x2.tok.u x2.tok.u)) fun m11 =>
  Option.bind (some (cond ((Zbu BEq.beq r6.1 a1).isSome) x2.tok.f x2.tok.f)) fun m12 =>
  Option.bind (some (cond ((Zbu BEq.beq r6.1 a1).isSome) x2.l x2.l)) fun m13 =>
  Option.bind (some (cond ((Zbu BEq.beq r6.1 a1).isSome) (Zki [] (Zbu BEq.beq r6.1 a1)) r6.2.1)) fun m14 =>
  Option.bind (qf (m14, a1)) fun r15 =>
  Option.bind (Option.bind (room 80 (m7.length + r15.length)) (fun _ => some (m7 ++ r15))) fun o16 =>
  k o16 (IntKind.i64.wrap (y15 + (1 : Int)))))
  (kx0 y5)
def Zko (qa : T3a) (qf : T3g) (qb : T3b) (n : Nat) (p0 : List Val) (p1 : List ((List UInt8) × (List Val))) : Option (List Val) :=
  Zhy (ZfS qa qf qb n p1 [] p0 (p0.length : Int) (fun z1 =>
  some z1)) n [] (0 : Int)
abbrev ZuG (qa : T3a) (qf : T3g) (qb : T3b) : List (Nat × TCall X) := [(55, ⟨true, [.ty 51], [4], qa⟩), (54, ⟨true, [.ty 22, .ty 60], [22], qf⟩), (56, ⟨true, [.ty 51], [9, 22, 4], qb⟩)]
noncomputable abbrev ZdS (qa : T3a) (qf : T3g) (qb : T3b) : Cx := ⟨C, U, ZuG qa qf qb, [], fun _ => []⟩
theorem Zrs : okF (C.ann 54) Tryz.f54 2 = true := by kernel_rfl
abbrev vars_put_L0_D : LD := ⟨0, [.val 1 60, .val 4 22, .val 13 22, .val 14 2], [.own 5 51, .val 15 2], [(0, [.own 5 51])], []⟩
abbrev Zew (qa : T3a) (qf : T3g) (qb : T3b) (n : Nat) : LG U (PX X [22]) vars_put_L0_D := fun c kx kr y k => ZfS qa qf qb n c.1 c.2.1 c.2.2.1 c.2.2.2.1 (fun z0 => kx 0 (z0, ())) y.1 y.2.1 (fun z0 z1 => k (z0, z1, ()))
noncomputable abbrev Zey (qa : T3a) (qf : T3g) (qb : T3b) (n : Nat) : ZfY (ZdS qa qf qb) (PX X [22]) := [(0, Zgy U vars_put_L0_D (Zew qa qf qb n) n)]
theorem Zoi (qa : T3a) (qf : T3g) (qb : T3b) (n : Nat) : ∀ c kx kr y k1, evL (ZdS qa qf qb) (ann 54) (Zey qa qf qb n) 0 (ZaH (Zad Tryz.f54) 0) (Zfx U vars_put_L0_D kx kr k1) (encS U vars_put_L0_D.cap vars_put_L0_D.din c y) = Zew qa qf qb n c (fun i z => kx i c z) kr y (fun y2 => k1 c y2) := by
  intro c kx kr y k1
  kernel_rfl
theorem ZuL (qa : T3a) (qf : T3g) (qb : T3b) (n : Nat) : ∀ a, fnL (ZdS qa qf qb) true 54 Tryz.f54 [.ty 22, .ty 60] [22] (Zey qa qf qb n) a = Zko qa qf qb n a.1 a.2 := by
  intro a
  kernel_rfl
theorem ZlV {K : Zaa} (qa : T3a) (qf : T3g) (qb : T3b) (h0 : P3a K qa) (h1 : P3e K qf) (h2 : P3b K qb) : CallsOk (ZdS qa qf qb) (Zac C K) :=
  ⟨(Zap h0 (Zap h1 (Zap h2 Zbc))), Zbb⟩
theorem ZkZ {K : Zaa} (qa : T3a) (qf : T3g) (qb : T3b) (h0 : P3a K qa) (h1 : P3e K qf) (h2 : P3b K qb) (n : Nat) (b0 : Base) (bn0 : b0.nr ≤ 0) : Law (ZdS qa qf qb) b0 (Zac C K) (ann 54) n (ZaH (Zad Tryz.f54) 0) (Zgy U vars_put_L0_D (Zew qa qf qb n) n) :=
  Zen (x := ZdS qa qf qb) (id := 0) ok (ZlV qa qf qb h0 h1 h2) (sums := Zey qa qf qb n) (ZaR (show ZaD 0 (ZaH (Zad Tryz.f54) 0) = [] by kernel_rfl)) vars_put_L0_D bn0 (Zew qa qf qb n) (Zoi qa qf qb n)
theorem Zl7 {K : Zaa} (hK : ∀ args h, K 54 args h = none) (qa : T3a) (qf : T3g) (qb : T3b) (h0 : P3a K qa) (h1 : P3e K qf) (h2 : P3b K qb) (t : PX X (AK.tys [.ty 22, .ty 60]) → Option (PX X [22])) (h : ∀ a r, t a = some r → ∃ n, Zko qa qf qb n a.1 a.2 = some r) : ZaC U (Zac C K) 54 ⟨true, [.ty 22, .ty 60], [22], t⟩ := by
  refine ZaY (x := ZdS qa qf qb) (ak := [.ty 22, .ty 60]) (rts := [22]) (dir := true) ok (ZlV qa qf qb h0 h1 h2) hK Tryz.func54 Zrs fun a r hr => ?_
  obtain ⟨n, hn⟩ := h a r hr
  exact ⟨n, Zey qa qf qb n, (Zci (ids := [0]) (by kernel_rfl) (by decide) (fun i hi => by
    simp only [List.mem_cons, List.not_mem_nil, or_false] at hi
    rcases hi with rfl
    · exact Zch (c2 := ZaH (Zad Tryz.f54) 0) (by kernel_rfl) (by kernel_rfl) (ZkZ qa qf qb h0 h1 h2 _ _ (Nat.le_refl _))
    )), (ZuL qa qf qb n a).trans hn⟩
def Ze6 (qd : T3e) (qg : T3h) (qf : T3g) (qh : T3f) (n : Nat) (p0 : List Val) (p1 : List ((List UInt8) × (List Val))) : Option ((List Val) × Int) :=
  Option.bind (qd (p0, p1)) fun r1 =>
  cond (decide (r1 < (0 : Int)))
  (some ([], (6 : Int)))
  (Option.bind (cond (decide (r1 > (2000 : Int))) (qg p0) (some false)) fun r2 =>
  Option.bind (some (cond (decide (r1 > (2000 : Int))) r2 false)) fun m3 =>
  cond m3
  (some ([], (28 : Int)))
  (Option.bind (qf (p0, p1)) fun r4 =>
  Option.bind (qh r4) fun r5 =>
  cond (r5 != (0 : Int))
  (some ([], r5))
  (some (r4, (0 : Int)))))
abbrev Zms (qd : T3e) (qg : T3h) (qf : T3g) (qh : T3f) : List (Nat × TCall X) := [(53, ⟨true, [.ty 22, .ty 60], [3], qd⟩), (14, ⟨true, [.ty 22], [4], qg⟩), (54, ⟨true, [.ty 22, .ty 60], [22], qf⟩), (33, ⟨true, [.ty 22], [28], qh⟩)]
noncomputable abbrev Zd7 (qd : T3e) (qg : T3h) (qf : T3g) (qh : T3f) : Cx := ⟨C, U, Zms qd qg qf qh, [], fun _ => []⟩
theorem Zlm : okF (C.ann 34) Tryz.f34 2 = true := by kernel_rfl
noncomputable abbrev Zfy (qd : T3e) (qg : T3h) (qf : T3g) (qh : T3f) (n : Nat) : ZfY (Zd7 qd qg qf qh) (PX X [22, 28]) := []
theorem Zmy (qd : T3e) (qg : T3h) (qf : T3g) (qh : T3f) (n : Nat) : ∀ a, fnL (Zd7 qd qg qf qh) true 34 Tryz.f34 [.ty 22, .ty 60] [22, 28] (Zfy qd qg qf qh n) a = Ze6 qd qg qf qh n a.1 a.2 := by
  intro a
  kernel_rfl
theorem Zls {K : Zaa} (qd : T3e) (qg : T3h) (qf : T3g) (qh : T3f) (h0 : P3c K qd) (h1 : P3f K qg) (h2 : P3e K qf) (h3 : P3g K qh) : CallsOk (Zd7 qd qg qf qh) (Zac C K) :=
  ⟨(Zap h0 (Zap h1 (Zap h2 (Zap h3 Zbc)))), Zbb⟩
theorem Ziy {K : Zaa} (hK : ∀ args h, K 34 args h = none) (qd : T3e) (qg : T3h) (qf : T3g) (qh : T3f) (h0 : P3c K qd) (h1 : P3f K qg) (h2 : P3e K qf) (h3 : P3g K qh) (t : PX X (AK.tys [.ty 22, .ty 60]) → Option (PX X [22, 28])) (h : ∀ a r, t a = some r → ∃ n, Ze6 qd qg qf qh n a.1 a.2 = some r) : ZaC U (Zac C K) 34 ⟨true, [.ty 22, .ty 60], [22, 28], t⟩ := by
  refine ZaY (x := Zd7 qd qg qf qh) (ak := [.ty 22, .ty 60]) (rts := [22, 28]) (dir := true) ok (Zls qd qg qf qh h0 h1 h2 h3) hK Tryz.func34 Zlm fun a r hr => ?_
  obtain ⟨n, hn⟩ := h a r hr
  exact ⟨n, Zfy qd qg qf qh n, (ZaR (show ZaD 0 (Zad Tryz.f34) = [] by kernel_rfl)), (Zmy qd qg qf qh n a).trans hn⟩
def Zez {R : Type} (n : Nat) (a0 : List Cus) (a1 : List UInt8) (kx0 : Int → Option R) (kr : Int → Option R) (y4 : Int) (y5 : Int) (k : Int → Int → Option R) : Option R :=
  cond (decide (y5 < (a0.length : Int)))
  (Option.bind (ZfX a0 y5) fun x3 =>
  cond (x3.name == a1)
  (kr y5)
  (k y4 (IntKind.i64.wrap (y5 + (1 : Int)))))
  (kx0 y4)
def Zhn (n : Nat) (p0 : List Cus) (p1 : List UInt8) : Option Int :=
  Zhy (Zez n p0 p1 (fun z1 =>
  some (-1 : Int)) (fun z2 =>
  some z2)) n (0 : Int) (0 : Int)
abbrev Zql : List (Nat × TCall X) := []
noncomputable abbrev ZcM : Cx := ⟨C, U, Zql , [], fun _ => []⟩
theorem Zok : okF (C.ann 17) Tryz.f17 2 = true := by kernel_rfl
abbrev ref30_Find_L0_D : LD := ⟨0, [.val 0 23, .val 1 9], [.val 4 2, .val 5 2], [(0, [.val 4 2])], [.val 4 3]⟩
abbrev ZdD (n : Nat) : LG U (PX X [3]) ref30_Find_L0_D := fun c kx kr y k => Zez n c.1 c.2.1 (fun z0 => kx 0 (z0, ())) (fun z0 => kr (z0, ())) y.1 y.2.1 (fun z0 z1 => k (z0, z1, ()))
noncomputable abbrev Zds (n : Nat) : ZfY (ZcM ) (PX X [3]) := [(0, Zgy U ref30_Find_L0_D (ZdD n) n)]
theorem ZkJ (n : Nat) : ∀ c kx kr y k1, evL (ZcM ) (ann 17) (Zds n) 0 (ZaH (Zad Tryz.f17) 0) (Zfx U ref30_Find_L0_D kx kr k1) (encS U ref30_Find_L0_D.cap ref30_Find_L0_D.din c y) = ZdD n c (fun i z => kx i c z) kr y (fun y2 => k1 c y2) := by
  intro c kx kr y k1
  kernel_rfl
theorem ZqQ (n : Nat) : ∀ a, fnL (ZcM ) true 17 Tryz.f17 [.ty 23, .ty 9] [3] (Zds n) a = Zhn n a.1 a.2 := by
  intro a
  kernel_rfl
theorem ZiI {K : Zaa} : CallsOk (ZcM ) (Zac C K) :=
  ⟨Zbc, Zbb⟩
theorem Zju {K : Zaa} (n : Nat) (b0 : Base) (bn0 : b0.nr ≤ 0) : Law (ZcM ) b0 (Zac C K) (ann 17) n (ZaH (Zad Tryz.f17) 0) (Zgy U ref30_Find_L0_D (ZdD n) n) :=
  Zen (x := ZcM ) (id := 0) ok (ZiI ) (sums := Zds n) (ZaR (show ZaD 0 (ZaH (Zad Tryz.f17) 0) = [] by kernel_rfl)) ref30_Find_L0_D bn0 (ZdD n) (ZkJ n)
theorem Zj9 {K : Zaa} (hK : ∀ args h, K 17 args h = none) (t : PX X (AK.tys [.ty 23, .ty 9]) → Option (PX X [3])) (h : ∀ a r, t a = some r → ∃ n, Zhn n a.1 a.2 = some r) : ZaC U (Zac C K) 17 ⟨true, [.ty 23, .ty 9], [3], t⟩ := by
  refine ZaY (x := ZcM ) (ak := [.ty 23, .ty 9]) (rts := [3]) (dir := true) ok (ZiI ) hK Tryz.func17 Zok fun a r hr => ?_
  obtain ⟨n, hn⟩ := h a r hr
  exact ⟨n, Zds n, (Zci (ids := [0]) (by kernel_rfl) (by decide) (fun i hi => by
    simp only [List.mem_cons, List.not_mem_nil, or_false] at hi
    rcases hi with rfl
    · exact Zch (c2 := ZaH (Zad Tryz.f17) 0) (by kernel_rfl) (by kernel_rfl) (Zju _ _ (Nat.le_refl _))
    )), (ZqQ n a).trans hn⟩
def ZeE {R : Type} (n : Nat) (_ : Unit) (a7 : List Cus) (a8 : Int) (kx0 : (List ((List UInt8) × (List Val))) → Option R) (y9 : Int) (h1 : List ((List UInt8) × (List Val))) (k : Int → (List ((List UInt8) × (List Val))) → Option R) : Option R :=
  cond (decide (y9 < a8))
  (Option.bind (ZfX a7 y9) fun x2 =>
  k (IntKind.i64.wrap (y9 + (1 : Int))) (Zgu BEq.beq x2.name x2.val h1))
  (kx0 h1)
def Zg0 (n : Nat) (p0 : List Cus) : Option (List ((List UInt8) × (List Val))) :=
  Zhy (ZeE n () p0 (p0.length : Int) (fun z1 =>
  some z1)) n (0 : Int) []
abbrev ZpF : List (Nat × TCall X) := []
noncomputable abbrev ZcP : Cx := ⟨C, U, ZpF , [], fun _ => []⟩
theorem Znh : okF (C.ann 35) Tryz.f35 1 = true := by kernel_rfl
abbrev vars_table_L0_D : LD := ⟨0, [.mp 3 0, .val 7 23, .val 8 2], [.val 9 2, .hmap 9 22], [(0, [.hmap 9 22])], []⟩
abbrev ZdF (n : Nat) : LG U (PX X [60]) vars_table_L0_D := fun c kx kr y k => ZeE n c.1 c.2.1 c.2.2.1 (fun z0 => kx 0 (z0, ())) y.1 y.2.1 (fun z0 z1 => k (z0, z1, ()))
noncomputable abbrev Zdv (n : Nat) : ZfY (ZcP ) (PX X [60]) := [(0, Zgy U vars_table_L0_D (ZdF n) n)]
theorem ZkP (n : Nat) : ∀ c kx kr y k1, evL (ZcP ) (ann 35) (Zdv n) 0 (ZaH (Zad Tryz.f35) 0) (Zfx U vars_table_L0_D kx kr k1) (encS U vars_table_L0_D.cap vars_table_L0_D.din c y) = ZdF n c (fun i z => kx i c z) kr y (fun y2 => k1 c y2) := by
  intro c kx kr y k1
  kernel_rfl
theorem ZpD (n : Nat) : ∀ a, fnL (ZcP ) false 35 Tryz.f35 [.ty 23] [60] (Zdv n) a = Zg0 n a := by
  intro a
  kernel_rfl
theorem ZiZ {K : Zaa} : CallsOk (ZcP ) (Zac C K) :=
  ⟨Zbc, Zbb⟩
theorem Zjo {K : Zaa} (n : Nat) (b0 : Base) (bn0 : b0.nr ≤ 0) : Law (ZcP ) b0 (Zac C K) (ann 35) n (ZaH (Zad Tryz.f35) 0) (Zgy U vars_table_L0_D (ZdF n) n) :=
  Zen (x := ZcP ) (id := 0) ok (ZiZ ) (sums := Zdv n) (ZaR (show ZaD 0 (ZaH (Zad Tryz.f35) 0) = [] by kernel_rfl)) vars_table_L0_D bn0 (ZdF n) (ZkP n)
theorem Zkj {K : Zaa} (hK : ∀ args h, K 35 args h = none) (t : PX X (AK.tys [.ty 23]) → Option (PX X [60])) (h : ∀ a r, t a = some r → ∃ n, Zg0 n a = some r) : ZaC U (Zac C K) 35 ⟨false, [.ty 23], [60], t⟩ := by
  refine ZaY (x := ZcP ) (ak := [.ty 23]) (rts := [60]) (dir := false) ok (ZiZ ) hK Tryz.func35 Znh fun a r hr => ?_
  obtain ⟨n, hn⟩ := h a r hr
  exact ⟨n, Zdv n, (Zci (ids := [0]) (by kernel_rfl) (by decide) (fun i hi => by
    simp only [List.mem_cons, List.not_mem_nil, or_false] at hi
    rcases hi with rfl
    · exact Zch (c2 := ZaH (Zad Tryz.f35) 0) (by kernel_rfl) (by kernel_rfl) (Zjo _ _ (Nat.le_refl _))
    )), (ZpD n a).trans hn⟩
def Zfa (qh : T3f) (qi : T3i) (qj : T3j) (qk : T3k) (n : Nat) (p0 : List Val) (p1 : List Cus) : Option ((List Val) × Int) :=
  Option.bind (qh p0) fun r1 =>
  cond (r1 != (0 : Int))
  (some ([], r1))
  (Option.bind (qi p1) fun r2 =>
  cond (r2 != (0 : Int))
  (some ([], r2))
  (Option.bind (qj p1) fun r3 =>
  Option.bind (qk (p0, r3)) fun r4 =>
  some (r4.1, r4.2)))
abbrev Zmg (qh : T3f) (qi : T3i) (qj : T3j) (qk : T3k) : List (Nat × TCall X) := [(33, ⟨true, [.ty 22], [28], qh⟩), (22, ⟨true, [.ty 23], [28], qi⟩), (35, ⟨false, [.ty 23], [60], qj⟩), (34, ⟨true, [.ty 22, .ty 60], [22, 28], qk⟩)]
noncomputable abbrev Zd9 (qh : T3f) (qi : T3i) (qj : T3j) (qk : T3k) : Cx := ⟨C, U, Zmg qh qi qj qk, [], fun _ => []⟩
theorem ZkQ : okF (C.ann 12) Tryz.f12 2 = true := by kernel_rfl
noncomputable abbrev Zfz (qh : T3f) (qi : T3i) (qj : T3j) (qk : T3k) (n : Nat) : ZfY (Zd9 qh qi qj qk) (PX X [22, 28]) := []
theorem Zml (qh : T3f) (qi : T3i) (qj : T3j) (qk : T3k) (n : Nat) : ∀ a, fnL (Zd9 qh qi qj qk) true 12 Tryz.f12 [.ty 22, .ty 23] [22, 28] (Zfz qh qi qj qk n) a = Zfa qh qi qj qk n a.1 a.2 := by
  intro a
  kernel_rfl
theorem Zly {K : Zaa} (qh : T3f) (qi : T3i) (qj : T3j) (qk : T3k) (h0 : P3g K qh) (h1 : P3h K qi) (h2 : P3i K qj) (h3 : P3j K qk) : CallsOk (Zd9 qh qi qj qk) (Zac C K) :=
  ⟨(Zap h0 (Zap h1 (Zap h2 (Zap h3 Zbc)))), Zbb⟩
theorem ZiT {K : Zaa} (hK : ∀ args h, K 12 args h = none) (qh : T3f) (qi : T3i) (qj : T3j) (qk : T3k) (h0 : P3g K qh) (h1 : P3h K qi) (h2 : P3i K qj) (h3 : P3j K qk) (t : PX X (AK.tys [.ty 22, .ty 23]) → Option (PX X [22, 28])) (h : ∀ a r, t a = some r → ∃ n, Zfa qh qi qj qk n a.1 a.2 = some r) : ZaC U (Zac C K) 12 ⟨true, [.ty 22, .ty 23], [22, 28], t⟩ := by
  refine ZaY (x := Zd9 qh qi qj qk) (ak := [.ty 22, .ty 23]) (rts := [22, 28]) (dir := true) ok (Zly qh qi qj qk h0 h1 h2 h3) hK Tryz.func12 ZkQ fun a r hr => ?_
  obtain ⟨n, hn⟩ := h a r hr
  exact ⟨n, Zfz qh qi qj qk n, (ZaR (show ZaD 0 (Zad Tryz.f12) = [] by kernel_rfl)), (Zml qh qi qj qk n a).trans hn⟩
end Go.Tev.S1
namespace Go.Tev.S1
open Go.Abs Go.Proofs
def Ybf (a : List Cus × List UInt8) : Option Int := if a.1.length ≤ B then some (ZdP a.1 a.2 0) else none
theorem Zx2 {c : List Cus} {n : List UInt8} (h : c.length ≤ B) : Ybf (c, n) = some (ZdP c n 0) := if_pos h
theorem Zxe (c : List Cus) (n : List UInt8) (h : c.length ≤ B) : Zhn (c.length + 1) c n = some (ZdP c n 0) := by
  have hB : B = 2 ^ 36 := rfl
  unfold Zhn
  refine (ZdX c (fun (_ : Nat) => (0 : Int)) (fun b v => if v.name == n then .inr (some (b : Int)) else .inl (b + 1)) (fun b => some (-1 : Int)) (fun i b => b = i) ?_ ?_ ?_ 0 rfl _ (Nat.lt_succ_self _)).trans ?_
  · intro i b v k' hv hlt hb
    subst hb
    simp (disch := omega) only [Zez, Zct hv, Option.bind_some, dlt hlt, cond_true, Zeg]
    cases (v.name == n) <;> rfl
  · intro i b v b' hv hb hs
    subst hb
    cases e : (v.name == n) <;> rw [e] at hs <;> cases hs
    rfl
  · intro b k' hb
    simp only [Zez, ZrM, cond_false]
  · clear h
    have : ∀ (l : List Cus) (b : Nat), ZlH (fun (b : Nat) (v : Cus) => if v.name == n then .inr (some (b : Int)) else .inl (b + 1)) (fun _ => some (-1 : Int)) l b = some (ZdP l n (b : Int)) := by
      intro l
      induction l with
      | nil => intro b; rfl
      | cons v l ih =>
        intro b
        simp only [ZlH, ZdP]
        cases (v.name == n) with
        | true => rfl
        | false => exact ih (b + 1)
    exact this c 0
theorem Yc9 {K : Zaa} (hK : Zde K) : ZaC U (Zac C K) 17 ⟨true, [.ty 23, .ty 9], [3], Ybf⟩ :=
  Zj9 (kf hK 17 (by decide)) _ fun a r h => by
    unfold Ybf at h
    split at h
    · rename_i h3; cases h; exact ⟨_, Zxe a.1 a.2 h3⟩
    · cases h
def Zt8 (lk : Lk) (l : List Val) : Int := match ZeH lk l with
  | some m => m
  | none => -1
theorem Zy6 {R : Type} (lk : Lk) (z : Option R) (kx : List Val → Option R) : ∀ (l b : List Val), (ZeH lk b).isSome = true →
    ZlH (fun b v => if (ZeH lk (b ++ [v])).isSome = true then .inl (b ++ [v]) else .inr z) kx l b = if (ZeH lk (b ++ l)).isSome = true then kx (b ++ l) else z := by
  intro l
  induction l with
  | nil => intro b hb; simp only [ZlH, List.append_nil, if_pos hb]
  | cons v l ih =>
    intro b hb
    simp only [ZlH]
    by_cases h : (ZeH lk (b ++ [v])).isSome = true
    · rw [if_pos h]
      simp only
      rw [ih _ h, List.append_assoc]; rfl
    · rw [if_neg h]
      have : ¬ (ZeH lk (b ++ v :: l)).isSome = true := by
        intro h2
        apply h
        have e : b ++ v :: l = (b ++ [v]) ++ l := by simp
        rw [e, Zh8] at h2
        cases hh : ZeH lk (b ++ [v]) with
        | none => rw [hh] at h2; simp [Zji] at h2
        | some x => rfl
      rw [if_neg this]
def okM (a : List Val × List (List UInt8 × List Val)) : Prop := Zaz a.1 ≤ B ∧ ∀ p ∈ a.2, Zaz p.2 ≤ V
instance (a) : Decidable (okM a) := inferInstanceAs (Decidable (_ ∧ _))
def Zz7 (a : List Val × List (List UInt8 × List Val)) : Option Int := if okM a then some (Zt8 (lkM a.2) a.1) else none
theorem ZrV {l : List Val} {m : List (List UInt8 × List Val)} (h : Zaz l ≤ B) (h2 : ∀ p ∈ m, Zaz p.2 ≤ V) : Zz7 (l, m) = some (Zt8 (lkM m) l) := if_pos ⟨h, h2⟩
theorem ZlE {lk : Lk} {l : List Val} {m : Nat} (h : Zaz l ≤ B) (h2 : ∀ n x, lk n = some x → Zaz x ≤ V) (hm : ZeH lk l = some m) : m ≤ 2 ^ 60 := by
  have h3 := YdV lk V (by decide) h2 l m hm
  have h4 : Zaz l * V ≤ B * V := Nat.mul_le_mul_right _ h
  have h5 : B * V = 2 ^ 60 := by decide
  omega
theorem ZhU {lk : Lk} {l : List Val} {m : Nat} (h : ZeH lk l = some m) : Zt8 lk l = (m : Int) := by unfold Zt8; rw [h]
theorem Zix {lk : Lk} {l : List Val} (h : ZeH lk l = none) : Zt8 lk l = -1 := by unfold Zt8; rw [h]
theorem ZrC : decide ((-1 : Int) < 0) = true := rfl
theorem Zqc (m : List (List UInt8 × List Val)) (l : List Val) (k : Nat) (h1 : Zaz l < k + 1) (h2 : Zaz l ≤ B) (hm : ∀ p ∈ m, Zaz p.2 ≤ V) :
    Zfc (fun v => some v.ref) (below (fun a : List Val × List (List UInt8 × List Val) => Zaz a.1) k Zz7) ZmP ZnQ (l.length + 1) l m = some (Zt8 (lkM m) l) := by
  have hB : B = 2 ^ 36 := rfl
  have hV : V = 2 ^ 24 := rfl
  have hlk : ∀ n x, lkM m n = some x → Zaz x ≤ V := by
    intro n x h
    obtain ⟨p, hp, rfl⟩ := Zxh h
    exact hm p hp
  unfold Zfc
  have e0 : Zt8 (lkM m) [] = 0 := by unfold Zt8; rw [Zb7]; rfl
  refine ((congrArg (fun z => ZqY _ _ (0 : Int) z (0 : Int)) e0.symm).trans (Zhb l (fun (_ : List Val) => (0 : Int)) (fun b => Zt8 (lkM m) b) (fun b v => if (ZeH (lkM m) (b ++ [v])).isSome = true then .inl (b ++ [v]) else .inr (some (-1 : Int))) (fun b => some (Zt8 (lkM m) b)) (fun i b => b = l.take i ∧ (ZeH (lkM m) b).isSome = true) ?_ ?_ ?_ [] ⟨rfl, by rw [Zb7]; rfl⟩ _ (Nat.lt_succ_self _))).trans ?_
  · intro i b v k' hv hlt hb
    obtain ⟨hb, hbs⟩ := hb
    obtain ⟨nb, hnb⟩ := Option.isSome_iff_exists.1 hbs
    have hmem := List.mem_of_getElem? hv
    have hs := ZfL hmem
    have hm1 := ZkH hmem
    have hl := Zf2 l
    have he := v.tot_eq
    have hp := ZiC v.l
    have hble : Zaz b ≤ B := by rw [hb]; exact Nat.le_trans (Zf4 l i) h2
    have hbb := ZlE hble hlk hnb
    have ib := ZhU hnb
    have hbel : below (fun a : List Val × List (List UInt8 × List Val) => Zaz a.1) k Zz7 (v.l, m) = some (Zt8 (lkM m) v.l) := (ZeW (sz := fun a : List Val × List (List UInt8 × List Val) => Zaz a.1) (show Zaz v.l < k by omega)).trans (ZrV (by omega) hm)
    have hbel2 : below (fun a : List Val × List (List UInt8 × List Val) => Zaz a.1) k Zz7 ((ZaA v.l).2.1, m) = some (Zt8 (lkM m) (ZaA v.l).2.1) := (ZeW (sz := fun a : List Val × List (List UInt8 × List Val) => Zaz a.1) (show Zaz (ZaA v.l).2.1 < k by omega)).trans (ZrV (by omega) hm)
    have hi : IntKind.i64.wrap ((i : Int) + 1) = ((i + 1 : Nat) : Int) := wrap_add1 (by omega)
    simp only [Zdu, Zct hv, Option.bind_some, dlt hlt, cond_true, Val.eta, hi, Bool.cond_self]
    have hsn := ZuS (lkM m) b v
    rw [hnb] at hsn
    rw [ib]
    cases e1 : v.ref
    · rw [Zjd e1] at hsn
      simp only [Bool.not_false, Bool.not_true, cond_true, cond_false, Option.bind_some, hbel, Bool.false_and]
      cases e2 : ZeH (lkM m) v.l with
      | none =>
        rw [e2] at hsn
        rw [Zix e2, hsn]
        simp only [ZrC, cond_true, Zji, Option.isSome_none, Bool.false_eq_true, if_false]
      | some n =>
        have hnn := ZlE (show Zaz v.l ≤ B by omega) hlk e2
        rw [e2] at hsn
        have e3 : decide ((n : Int) < 0) = false := by simp
        rw [ZhU e2, e3, if_pos (by rw [hsn]; rfl)]
        simp only [cond_false]
        rw [ZhU hsn]
        simp (disch := omega) only [Zeg]
        have hx : (nb : Int) + (1 + (v.tok.t.length : Int) + (v.tok.u.length : Int)) + (n : Int) = ((nb + ((1 + v.tok.t.length + v.tok.u.length) + n) : Nat) : Int) := by omega
        rw [hx]
    · simp only [Bool.not_false, Bool.not_true, cond_true, cond_false, Option.bind_some, Zlg (show v.tot ≤ B by omega), Bool.true_and]
      cases e2 : Zbu BEq.beq (ZaA v.l).1 m with
      | some x =>
        have e2' : lkM m (ZaA v.l).1 = some x := e2
        have hxl := hlk _ _ e2'
        rw [Zns e1 e2'] at hsn
        simp only [Zki, Option.isSome_some, cond_true, Bool.not_true, Bool.false_and, cond_false, Zkr (show Zaz x ≤ B by omega), Option.bind_some]
        have e3 : decide ((Zaz x : Int) < 0) = false := by simp
        rw [e3, if_pos (by rw [hsn]; rfl)]
        simp only [cond_false]
        rw [ZhU hsn, Zeg (by omega) (by omega)]
        rfl
      | none =>
        have e2' : lkM m (ZaA v.l).1 = none := e2
        simp only [Option.isSome_none, cond_false, Bool.not_false, Bool.true_and, Option.bind_some]
        cases e3 : (ZaA v.l).2.2
        · rw [ZsS e1 e2' e3] at hsn
          rw [hsn]
          simp only [ZrC, cond_true, cond_false, Option.bind_some, Zji, Option.isSome_none, Bool.false_eq_true, if_false]
        · rw [Zou e1 e2' e3] at hsn
          simp only [cond_true, hbel2, Option.bind_some]
          cases e4 : ZeH (lkM m) (ZaA v.l).2.1 with
          | none =>
            rw [e4] at hsn
            rw [Zix e4, hsn]
            simp only [ZrC, cond_true, Zji, Option.isSome_none, Bool.false_eq_true, if_false]
          | some n =>
            rw [e4] at hsn
            have hnn := ZlE (show Zaz (ZaA v.l).2.1 ≤ B by omega) hlk e4
            have e5 : decide ((n : Int) < 0) = false := by simp
            rw [ZhU e4, e5, if_pos (by rw [hsn]; rfl)]
            simp only [cond_false]
            rw [ZhU hsn, Zeg (by omega) (by omega)]
            rfl
  · intro i b v b' hv hb hs
    split at hs
    · rename_i h; cases hs; exact ⟨by rw [Zcm hv, hb.1], h⟩
    · cases hs
  · intro b k' hb
    simp only [Zdu, ZrM, cond_false]
  · rw [Zy6 _ _ _ _ _ (by rw [Zb7]; rfl)]
    simp only [List.nil_append]
    cases e : ZeH (lkM m) l with
    | none => rw [Zix e]; rfl
    | some n => rfl
theorem Zxx {K : Zaa} (hK : Zde K) : ZaC U (Zac C K) 53 ⟨true, [.ty 22, .ty 60], [3], Zz7⟩ :=
  Zfo (U := U) (ak := [.ty 22, .ty 60]) (rts := [3]) (fun a : List Val × List (List UInt8 × List Val) => Zaz a.1) Zz7 fun k ih => ZiF (kf hK 53 (by decide)) _ _ _ _ (ZrY hK) ih (Zq6 hK) (Zv0 hK) _ fun a r h => by
    obtain ⟨h1, h2⟩ := ZeI h
    unfold Zz7 at h2
    split at h2
    · rename_i h3; cases h2; exact ⟨_, Zqc a.2 a.1 k h1 h3.1 h3.2⟩
    · cases h2
end Go.Tev.S1
namespace Go.Tev
open Go.Abs
theorem Ya2 {lk : Lk} {l : List Val} {n : Nat} (h : ZeH lk l = some n) {v : Val} (hv : v ∈ l) : ∃ n', ZqV lk v = some n' ∧ n' ≤ n := by
  induction l generalizing n with
  | nil => cases hv
  | cons w l ih =>
    rw [ZbG] at h
    obtain ⟨x, y, hx, hy, rfl⟩ := ZeJ h
    rcases List.mem_cons.1 hv with rfl | hv
    · exact ⟨x, hx, by omega⟩
    · obtain ⟨n', h1, h2⟩ := ih hy hv
      exact ⟨n', h1, by omega⟩
theorem YbR {lk : Lk} {l : List Val} {n : Nat} (h : ZeH lk l = some n) (i : Nat) : (Zei lk (l.take i)).length ≤ n := by
  rw [← List.take_append_drop i l, Zh8] at h
  obtain ⟨x, y, hx, hy, rfl⟩ := ZeJ h
  have h1 := Zxf lk _ _ hx
  have h2 := Zf2 (Zei lk (l.take i))
  omega
theorem Zoj {l : List Val} {v : Val} (hv : v ∈ l) (h : v.hasv = true) : ZbD l = true := by
  induction l with
  | nil => cases hv
  | cons w l ih =>
    rw [ZbD]
    rcases List.mem_cons.1 hv with rfl | hv
    · rw [h]; rfl
    · rw [ih hv, Bool.or_true]
end Go.Tev
namespace Go.Tev.S1
open Go.Abs Go.Proofs
def okC' (a : List Val × List Cus) : Prop := Zaz a.1 ≤ B ∧ a.2.length ≤ B ∧ ∀ p ∈ a.2, Zaz p.val ≤ V
instance (a) : Decidable (okC' a) := inferInstanceAs (Decidable (_ ∧ _ ∧ _))
end Go.Tev.S1
namespace Go.Tev.S1
open Go.Abs Go.Proofs
abbrev Mp := List (List UInt8 × List Val)
def Yc0 (lk : Lk) : Prop := ∀ n x, lk n = some x → Zaz x ≤ V ∧ ZbD x = false
def okP (lk : Lk) (l : List Val) : Prop := Zaz l ≤ B ∧ Yc0 lk ∧ ∃ n, ZeH lk l = some n ∧ n ≤ B
open Classical in
noncomputable def YaF (a : List Val × Mp) : Option (List Val) := if okP (lkM a.2) a.1 then some (Zei (lkM a.2) a.1) else none
theorem Zrz {l : List Val} {m : Mp} (h : okP (lkM m) l) : YaF (l, m) = some (Zei (lkM m) l) := if_pos h
def szP (l : List Val) : Nat := if ZbD l then B + 1 + Zaz l else Zaz l
theorem Yco {lk : Lk} {l : List Val} (h : okP lk l) {v : Val} (hv : v ∈ l) :
    (v.ref = false → okP lk v.l ∧ szP v.l < szP l) ∧
    (v.ref = true → ∀ x, lk (ZaA v.l).1 = some x → okP lk x ∧ szP x < szP l ∧ Zei lk x = x) ∧
    (v.ref = true → lk (ZaA v.l).1 = none → okP lk (ZaA v.l).2.1 ∧ szP (ZaA v.l).2.1 < szP l) := by
  have hB : B = 2 ^ 36 := rfl
  have hV : V = 2 ^ 24 := rfl
  obtain ⟨h1, h2, n, h3, h4⟩ := h
  obtain ⟨n', h5, h6⟩ := Ya2 h3 hv
  have hs := ZfL hv
  have hp := ZiC v.l
  have hmono : ∀ (y : List Val), Zaz y < Zaz l → (ZbD y = true → ZbD l = true) → szP y < szP l := by
    intro y hy hh
    unfold szP
    by_cases e : ZbD y = true
    · rw [if_pos e, if_pos (hh e)]; omega
    · rw [if_neg e]; split <;> omega
  refine ⟨fun e => ?_, fun e x hx => ?_, fun e hx => ?_⟩
  · rw [Zjd e] at h5
    obtain ⟨a, b, ha, hb, rfl⟩ := ZeJ h5
    refine ⟨⟨by omega, h2, b, hb, by omega⟩, hmono _ hs (fun hh => Zoj hv (by rw [Val.hasv_eq, hh, Bool.or_true]))⟩
  · obtain ⟨g1, g2⟩ := h2 _ _ hx
    refine ⟨⟨by omega, h2, Zaz x, ZiD lk x g2, by omega⟩, ?_, Zkx lk x g2⟩
    have : ZbD l = true := Zoj hv (by rw [Val.hasv_eq, e]; rfl)
    unfold szP
    rw [if_pos this, if_neg (by rw [g2]; decide)]
    omega
  · cases e3 : (ZaA v.l).2.2 with
    | false => rw [ZsS e hx e3] at h5; cases h5
    | true =>
      rw [Zou e hx e3] at h5
      refine ⟨⟨by omega, h2, n', h5, by omega⟩, hmono _ (by omega) (fun _ => Zoj hv (by rw [Val.hasv_eq, e]; rfl))⟩
theorem Zpv {lk : Lk} {l : List Val} {n : Nat} (h : ZeH lk l = some n) (hn : n ≤ B) {i : Nat} {v : Val} (hv : l[i]? = some v) {b : Nat} (hb : b ≤ 96) : room b ((Zei lk (l.take i)).length + (Zty lk v).length) = some () := by
  have hB : B = 2 ^ 36 := rfl
  have h1 := YbR h (i + 1)
  rw [Zcm hv, ZpR, List.length_append] at h1
  exact YaC (by omega) hb
theorem ZyU (m : Mp) (l : List Val) (k : Nat) (h1 : szP l < k + 1) (h2 : okP (lkM m) l) :
    Zko (fun v => some v.ref) (below (fun a : List Val × Mp => szP a.1) k YaF) ZmP (l.length + 1) l m = some (Zei (lkM m) l) := by
  have hB : B = 2 ^ 36 := rfl
  have hV : V = 2 ^ 24 := rfl
  unfold Zko
  have e0 := Zd5 (lkM m)
  refine ((congrArg (fun z => Zhy _ _ z (0 : Int)) e0.symm).trans (ZdX l (fun b => Zei (lkM m) b) (fun b v => .inl (b ++ [v])) (fun b => some (Zei (lkM m) b)) (fun i b => b = l.take i) ?_ ?_ ?_ [] rfl _ (Nat.lt_succ_self _))).trans ?_
  · intro i b v k' hv hlt hb
    subst hb
    have hmem := List.mem_of_getElem? hv
    have hs := ZfL hmem
    have hm1 := ZkH hmem
    have hl := Zf2 l
    have hB2 := h2.1
    obtain ⟨g1, g2, g3⟩ := Yco h2 hmem
    obtain ⟨n, hn, hn2⟩ := h2.2.2
    have hr := Zpv hn hn2 hv (show 80 ≤ 96 by decide)
    have hi : IntKind.i64.wrap ((i : Int) + 1) = ((i + 1 : Nat) : Int) := wrap_add1 (by omega)
    have bel : ∀ x, okP (lkM m) x → szP x < szP l → below (fun a : List Val × Mp => szP a.1) k YaF (x, m) = some (Zei (lkM m) x) := fun x hx hz => (ZeW (sz := fun a : List Val × Mp => szP a.1) (show szP x < k by omega)).trans (Zrz hx)
    simp only [ZfS, Zct hv, Option.bind_some, dlt hlt, cond_true, Val.eta, hi, Bool.cond_self]
    rw [ZpR]
    cases e1 : v.ref
    · obtain ⟨g4, g5⟩ := g1 e1
      rw [Zq1 e1] at hr ⊢
      simp only [Bool.not_false, cond_true, bel _ g4 g5, Option.bind_some, hr]
    · simp only [Bool.not_true, cond_false, Zlg (show v.tot ≤ B by omega), Option.bind_some]
      cases e2 : Zbu BEq.beq (ZaA v.l).1 m with
      | some x =>
        have e2' : lkM m (ZaA v.l).1 = some x := e2
        obtain ⟨g4, g5, g6⟩ := g2 e1 x e2'
        rw [ZsM e1 e2'] at hr ⊢
        simp only [Option.isSome_some, cond_true, Zki, bel _ g4 g5, Option.bind_some, g6, hr]
      | none =>
        have e2' : lkM m (ZaA v.l).1 = none := e2
        obtain ⟨g4, g5⟩ := g3 e1 e2'
        rw [Ztl e1 e2'] at hr ⊢
        simp only [Option.isSome_none, cond_false, bel _ g4 g5, Option.bind_some, hr]
  · intro i b v b' hv hb hs
    cases hs
    rw [Zcm hv, hb]
  · intro b k' hb
    simp only [ZfS, ZrM, cond_false]
  · rw [Zef (fun (b : List Val) (v : Val) => b ++ [v]), Zg7]
theorem Yfj {K : Zaa} (hK : Zde K) : ZaC U (Zac C K) 54 ⟨true, [.ty 22, .ty 60], [22], YaF⟩ :=
  Zfo (U := U) (ak := [.ty 22, .ty 60]) (rts := [22]) (fun a : List Val × Mp => szP a.1) YaF fun k ih => Zl7 (kf hK 54 (by decide)) _ _ _ (ZrY hK) ih (Zq6 hK) _ fun a r h => by
    obtain ⟨h1, h2⟩ := ZeI h
    unfold YaF at h2
    split at h2
    · rename_i h3; cases h2; exact ⟨_, ZyU a.2 a.1 k h1 h3⟩
    · cases h2
end Go.Tev.S1
namespace Go.Tev.S1
open Go.Abs Go.Proofs
abbrev T4a : Type := (List UInt8) → Option Bool
abbrev T4b : Type := (List Cus) → Option Bool
abbrev T4c : Type := (List Val) → Option Int
abbrev T4d : Type := (List Val) → Option Bool
abbrev P4a (K : Zaa) (t : T4a) : Prop := ZaC U (Zac C K) 61 ⟨true, [.ty 9], [4], t⟩
abbrev P4c (K : Zaa) (t : T4b) : Prop := ZaC U (Zac C K) 42 ⟨true, [.ty 23], [4], t⟩
abbrev P4d (K : Zaa) (t : T4c) : Prop := ZaC U (Zac C K) 33 ⟨true, [.ty 22], [28], t⟩
abbrev P4e (K : Zaa) (t : T4d) : Prop := ZaC U (Zac C K) 14 ⟨true, [.ty 22], [4], t⟩
abbrev P4f (K : Zaa) (t : T4c) : Prop := ZaC U (Zac C K) 44 ⟨true, [.ty 22], [3], t⟩
def Zes (qa : T4a) {R : Type} (n : Nat) (a6 : List Cus) (a7 : Int) (kx0 : Bool → Option R) (kr : Bool → Option R) (y2 : Bool) (y3 : List UInt8) (y8 : Int) (k : Bool → List UInt8 → Int → Option R) : Option R :=
  cond (decide (y8 < a7))
  (Option.bind (ZfX a6 y8) fun x3 =>
  Option.bind (qa x3.name) fun r4 =>
  Option.bind (some (cond (!r4) true (Op.bytesLess x3.name y3 || x3.name == y3))) fun m5 =>
  cond m5
  (kr false)
  (k y2 x3.name (IntKind.i64.wrap (y8 + (1 : Int)))))
  (kx0 y2)
def Zhs (qa : T4a) (n : Nat) (p0 : List Cus) : Option Bool :=
  ZqY (Zes qa n p0 (p0.length : Int) (fun z1 =>
  some true) (fun z2 =>
  some z2)) n false [] (0 : Int)
abbrev Zqo (qa : T4a) : List (Nat × TCall X) := [(61, ⟨true, [.ty 9], [4], qa⟩)]
noncomputable abbrev ZcL (qa : T4a) : Cx := ⟨C, U, Zqo qa, [], fun _ => []⟩
theorem Zn1 : okF (C.ann 42) Tryz.f42 1 = true := by kernel_rfl
abbrev vars_named_L0_D : LD := ⟨0, [.val 6 23, .val 7 2], [.val 2 4, .val 3 9, .val 8 2], [(0, [.val 2 4])], [.val 2 4]⟩
abbrev ZdE (qa : T4a) (n : Nat) : LG U (PX X [4]) vars_named_L0_D := fun c kx kr y k => Zes qa n c.1 c.2.1 (fun z0 => kx 0 (z0, ())) (fun z0 => kr (z0, ())) y.1 y.2.1 y.2.2.1 (fun z0 z1 z2 => k (z0, z1, z2, ()))
noncomputable abbrev Zdo (qa : T4a) (n : Nat) : ZfY (ZcL qa) (PX X [4]) := [(0, Zgy U vars_named_L0_D (ZdE qa n) n)]
theorem ZkN (qa : T4a) (n : Nat) : ∀ c kx kr y k1, evL (ZcL qa) (ann 42) (Zdo qa n) 0 (ZaH (Zad Tryz.f42) 0) (Zfx U vars_named_L0_D kx kr k1) (encS U vars_named_L0_D.cap vars_named_L0_D.din c y) = ZdE qa n c (fun i z => kx i c z) kr y (fun y2 => k1 c y2) := by
  intro c kx kr y k1
  kernel_rfl
theorem Zqn (qa : T4a) (n : Nat) : ∀ a, fnL (ZcL qa) true 42 Tryz.f42 [.ty 23] [4] (Zdo qa n) a = Zhs qa n a := by
  intro a
  kernel_rfl
theorem ZiB {K : Zaa} (qa : T4a) (h0 : P4a K qa) : CallsOk (ZcL qa) (Zac C K) :=
  ⟨(Zap h0 Zbc), Zbb⟩
theorem Zjh {K : Zaa} (qa : T4a) (h0 : P4a K qa) (n : Nat) (b0 : Base) (bn0 : b0.nr ≤ 0) : Law (ZcL qa) b0 (Zac C K) (ann 42) n (ZaH (Zad Tryz.f42) 0) (Zgy U vars_named_L0_D (ZdE qa n) n) :=
  Zen (x := ZcL qa) (id := 0) ok (ZiB qa h0) (sums := Zdo qa n) (ZaR (show ZaD 0 (ZaH (Zad Tryz.f42) 0) = [] by kernel_rfl)) vars_named_L0_D bn0 (ZdE qa n) (ZkN qa n)
theorem Zj4 {K : Zaa} (hK : ∀ args h, K 42 args h = none) (qa : T4a) (h0 : P4a K qa) (t : PX X (AK.tys [.ty 23]) → Option (PX X [4])) (h : ∀ a r, t a = some r → ∃ n, Zhs qa n a = some r) : ZaC U (Zac C K) 42 ⟨true, [.ty 23], [4], t⟩ := by
  refine ZaY (x := ZcL qa) (ak := [.ty 23]) (rts := [4]) (dir := true) ok (ZiB qa h0) hK Tryz.func42 Zn1 fun a r hr => ?_
  obtain ⟨n, hn⟩ := h a r hr
  exact ⟨n, Zdo qa n, (Zci (ids := [0]) (by kernel_rfl) (by decide) (fun i hi => by
    simp only [List.mem_cons, List.not_mem_nil, or_false] at hi
    rcases hi with rfl
    · exact Zch (c2 := ZaH (Zad Tryz.f42) 0) (by kernel_rfl) (by kernel_rfl) (Zjh qa h0 _ _ (Nat.le_refl _))
    )), (Zqn qa n a).trans hn⟩
def Zex (qc : T4b) (qd : T4c) (qe : T4d) (qf : T4c) {R : Type} (n : Nat) (a13 : List Cus) (a14 : Int) (kx0 : Int → Option R) (kr : Int → Option R) (y2 : Int) (y15 : Int) (k : Int → Int → Option R) : Option R :=
  cond (decide (y15 < a14))
  (Option.bind (ZfX a13 y15) fun x5 =>
  Option.bind (qd x5.val) fun r6 =>
  Option.bind (cond (!(r6 != (0 : Int))) (qe x5.val) (some false)) fun r7 =>
  Option.bind (some (cond (r6 != (0 : Int)) true r7)) fun m8 =>
  Option.bind (cond (!m8) (qf x5.val) (some (0 : Int))) fun r9 =>
  Option.bind (some (cond m8 true (decide (r9 > (2000 : Int))))) fun m10 =>
  cond m10
  (kr (8 : Int))
  (k y2 (IntKind.i64.wrap (y15 + (1 : Int)))))
  (kx0 y2)
def Zg6 (qc : T4b) (qd : T4c) (qe : T4d) (qf : T4c) (n : Nat) (p0 : List Cus) : Option Int :=
  Option.bind (cond (!(decide ((p0.length : Int) > (64 : Int)))) (qc p0) (some false)) fun r1 =>
  Option.bind (some (cond (decide ((p0.length : Int) > (64 : Int))) true (!r1))) fun m2 =>
  cond m2
  (some (8 : Int))
  (Zhy (Zex qc qd qe qf n p0 (p0.length : Int) (fun z3 =>
  some (0 : Int)) (fun z4 =>
  some z4)) n (0 : Int) (0 : Int))
abbrev Zpl (qc : T4b) (qd : T4c) (qe : T4d) (qf : T4c) : List (Nat × TCall X) := [(42, ⟨true, [.ty 23], [4], qc⟩), (33, ⟨true, [.ty 22], [28], qd⟩), (14, ⟨true, [.ty 22], [4], qe⟩), (44, ⟨true, [.ty 22], [3], qf⟩)]
noncomputable abbrev ZcQ (qc : T4b) (qd : T4c) (qe : T4d) (qf : T4c) : Cx := ⟨C, U, Zpl qc qd qe qf, [], fun _ => []⟩
theorem ZoD : okF (C.ann 22) Tryz.f22 1 = true := by kernel_rfl
abbrev vars_Check_L0_D : LD := ⟨0, [.val 13 23, .val 14 2], [.val 2 2, .val 15 2], [(0, [.val 2 2])], [.val 2 28]⟩
abbrev Zdn (qc : T4b) (qd : T4c) (qe : T4d) (qf : T4c) (n : Nat) : LG U (PX X [28]) vars_Check_L0_D := fun c kx kr y k => Zex qc qd qe qf n c.1 c.2.1 (fun z0 => kx 0 (z0, ())) (fun z0 => kr (z0, ())) y.1 y.2.1 (fun z0 z1 => k (z0, z1, ()))
noncomputable abbrev Zdy (qc : T4b) (qd : T4c) (qe : T4d) (qf : T4c) (n : Nat) : ZfY (ZcQ qc qd qe qf) (PX X [28]) := [(0, Zgy U vars_Check_L0_D (Zdn qc qd qe qf n) n)]
theorem ZkK (qc : T4b) (qd : T4c) (qe : T4d) (qf : T4c) (n : Nat) : ∀ c kx kr y k1, evL (ZcQ qc qd qe qf) (ann 22) (Zdy qc qd qe qf n) 0 (ZaH (Zad Tryz.f22) 0) (Zfx U vars_Check_L0_D kx kr k1) (encS U vars_Check_L0_D.cap vars_Check_L0_D.din c y) = Zdn qc qd qe qf n c (fun i z => kx i c z) kr y (fun y2 => k1 c y2) := by
  intro c kx kr y k1
  kernel_rfl
theorem ZoW (qc : T4b) (qd : T4c) (qe : T4d) (qf : T4c) (n : Nat) : ∀ a, fnL (ZcQ qc qd qe qf) true 22 Tryz.f22 [.ty 23] [28] (Zdy qc qd qe qf n) a = Zg6 qc qd qe qf n a := by
  intro a
  kernel_rfl
theorem ZiU {K : Zaa} (qc : T4b) (qd : T4c) (qe : T4d) (qf : T4c) (h0 : P4c K qc) (h1 : P4d K qd) (h2 : P4e K qe) (h3 : P4f K qf) : CallsOk (ZcQ qc qd qe qf) (Zac C K) :=
  ⟨(Zap h0 (Zap h1 (Zap h2 (Zap h3 Zbc)))), Zbb⟩
theorem Zjs {K : Zaa} (qc : T4b) (qd : T4c) (qe : T4d) (qf : T4c) (h0 : P4c K qc) (h1 : P4d K qd) (h2 : P4e K qe) (h3 : P4f K qf) (n : Nat) (b0 : Base) (bn0 : b0.nr ≤ 0) : Law (ZcQ qc qd qe qf) b0 (Zac C K) (ann 22) n (ZaH (Zad Tryz.f22) 0) (Zgy U vars_Check_L0_D (Zdn qc qd qe qf n) n) :=
  Zen (x := ZcQ qc qd qe qf) (id := 0) ok (ZiU qc qd qe qf h0 h1 h2 h3) (sums := Zdy qc qd qe qf n) (ZaR (show ZaD 0 (ZaH (Zad Tryz.f22) 0) = [] by kernel_rfl)) vars_Check_L0_D bn0 (Zdn qc qd qe qf n) (ZkK qc qd qe qf n)
theorem Zkm {K : Zaa} (hK : ∀ args h, K 22 args h = none) (qc : T4b) (qd : T4c) (qe : T4d) (qf : T4c) (h0 : P4c K qc) (h1 : P4d K qd) (h2 : P4e K qe) (h3 : P4f K qf) (t : PX X (AK.tys [.ty 23]) → Option (PX X [28])) (h : ∀ a r, t a = some r → ∃ n, Zg6 qc qd qe qf n a = some r) : ZaC U (Zac C K) 22 ⟨true, [.ty 23], [28], t⟩ := by
  refine ZaY (x := ZcQ qc qd qe qf) (ak := [.ty 23]) (rts := [28]) (dir := true) ok (ZiU qc qd qe qf h0 h1 h2 h3) hK Tryz.func22 ZoD fun a r hr => ?_
  obtain ⟨n, hn⟩ := h a r hr
  exact ⟨n, Zdy qc qd qe qf n, (Zci (ids := [0]) (by kernel_rfl) (by decide) (fun i hi => by
    simp only [List.mem_cons, List.not_mem_nil, or_false] at hi
    rcases hi with rfl
    · exact Zch (c2 := ZaH (Zad Tryz.f22) 0) (by kernel_rfl) (by kernel_rfl) (Zjs qc qd qe qf h0 h1 h2 h3 _ _ (Nat.le_refl _))
    )), (ZoW qc qd qe qf n a).trans hn⟩
end Go.Tev.S1
namespace Go.Tev
open Go.Abs
theorem ZhX (a : List UInt8) : Op.bytesLess a a = false := by
  induction a with
  | nil => rfl
  | cons x a ih => rw [Op.bytesLess, ih]; simp
theorem Ztd (a b : List UInt8) : (!(Op.bytesLess a b || a == b)) = Op.bytesLess b a := by
  induction a generalizing b with
  | nil => cases b <;> rfl
  | cons x a ih => cases b with
    | nil => rfl
    | cons y b =>
      have := ih b
      rw [Op.bytesLess, Op.bytesLess, ← this, List.cons_beq_cons]
      by_cases h1 : x = y
      · subst h1
        have : decide (x < x) = false := by simp
        rw [this]
        simp
      · have h2 : (x == y) = false := by simpa using h1
        have h3 : (y == x) = false := by simpa using fun h => h1 h.symm
        rw [h2, h3]
        simp only [Bool.false_and, Bool.or_false]
        rw [← decide_not]
        congr 1
        rw [UInt8.lt_iff_toNat_lt, UInt8.lt_iff_toNat_lt]
        have : x.toNat ≠ y.toNat := fun h => h1 (UInt8.toNat_inj.1 h)
        apply propext
        omega
theorem Zm5 {a b c : List UInt8} (h1 : Op.bytesLess a b = true) (h2 : Op.bytesLess b c = true) : Op.bytesLess a c = true := by
  induction a generalizing b c with
  | nil => cases c with
    | nil => cases b <;> simp [Op.bytesLess] at h2
    | cons => rfl
  | cons x a ih => cases b with
    | nil => simp [Op.bytesLess] at h1
    | cons y b => cases c with
      | nil => simp [Op.bytesLess] at h2
      | cons z c =>
        rw [Op.bytesLess, Bool.or_eq_true, Bool.and_eq_true, decide_eq_true_iff, beq_iff_eq] at h1 h2 ⊢
        rcases h1 with h1 | ⟨h1, h1'⟩
        · rcases h2 with h2 | ⟨h2, h2'⟩
          · left; rw [UInt8.lt_iff_toNat_lt] at *; omega
          · left; rw [← h2]; exact h1
        · rcases h2 with h2 | ⟨h2, h2'⟩
          · left; rw [h1]; exact h2
          · right; exact ⟨h1.trans h2, ih h1' h2'⟩
def namL : Option (List UInt8) → List Cus → Bool
  | _, [] => true
  | p, c :: r => Zco c.name && (match p with
    | none => true
    | some q => Op.bytesLess q c.name) && namL (some c.name) r
theorem Zqi {n : List UInt8} (h : Zco n = true) : n ≠ [] := by
  intro e; subst e; simp [Zco] at h
theorem Zvg {q : List UInt8} {c : List Cus} (h : namL (some q) c = true) : ∀ x ∈ c, Op.bytesLess q x.name = true := by
  induction c generalizing q with
  | nil => intro x hx; cases hx
  | cons y c ih =>
    rw [namL, Bool.and_eq_true, Bool.and_eq_true] at h
    intro x hx
    rcases List.mem_cons.1 hx with rfl | hx
    · exact h.1.2
    · exact Zm5 h.1.2 (ih h.2 x hx)
theorem Zlf {p : Option (List UInt8)} {y : Cus} {c : List Cus} (h : namL p (y :: c) = true) : (∀ x ∈ c, x.name ≠ y.name) ∧ namL (some y.name) c = true := by
  have h2 : namL (some y.name) c = true := by
    rw [namL.eq_def] at h
    simp only [Bool.and_eq_true] at h
    exact h.2
  refine ⟨fun x hx e => ?_, h2⟩
  have := Zvg h2 x hx
  rw [e, ZhX] at this
  cases this
def Ybv (c : List Cus) : List (List UInt8 × List Val) := c.foldl (fun h x => Zgu BEq.beq x.name x.val h) []
theorem ZpA (n k : List UInt8) (x : List Val) : ∀ h : List (List UInt8 × List Val), Zbu BEq.beq k (Zgu BEq.beq n x h) = if k == n then some x else Zbu BEq.beq k h
  | [] => by
    simp only [Zgu, Zbu]
    cases (k == n) <;> rfl
  | (k', u) :: r => by
    simp only [Zgu]
    cases e : (n == k')
    · simp only [cond_false, Zbu]
      rw [ZpA n k x r]
      cases e2 : (k == k')
      · simp
      · simp only [cond_true]
        have h1 : k = k' := by simpa using e2
        have h2 : (k == n) = false := by rw [h1]; rw [beq_eq_false_iff_ne] at e ⊢; exact fun h => e h.symm
        rw [h2]; rfl
    · simp only [cond_true, Zbu]
      have h1 : n = k' := by simpa using e
      rw [h1]
      cases e2 : (k == k') <;> rfl
theorem ZyP {n : List UInt8} {x : List Val} {h : List (List UInt8 × List Val)} {p : List UInt8 × List Val} (hp : p ∈ Zgu BEq.beq n x h) : p = (n, x) ∨ p ∈ h := by
  induction h with
  | nil => simp only [Zgu, List.mem_singleton] at hp; exact .inl hp
  | cons q h ih =>
    obtain ⟨k', u⟩ := q
    simp only [Zgu] at hp
    cases e : (n == k') <;> rw [e] at hp
    · rcases List.mem_cons.1 hp with rfl | hp
      · exact .inr List.mem_cons_self
      · rcases ih hp with h | h
        · exact .inl h
        · exact .inr (List.mem_cons_of_mem _ h)
    · rcases List.mem_cons.1 hp with rfl | hp
      · exact .inl rfl
      · exact .inr (List.mem_cons_of_mem _ hp)
theorem Ya6 {c : List Cus} {p : List UInt8 × List Val} (hp : p ∈ Ybv c) : ∃ x ∈ c, p.2 = x.val := by
  have : ∀ (c : List Cus) (h : List (List UInt8 × List Val)), p ∈ c.foldl (fun h x => Zgu BEq.beq x.name x.val h) h → p ∈ h ∨ ∃ x ∈ c, p.2 = x.val := by
    intro c
    induction c with
    | nil => intro h hp; exact .inl hp
    | cons y c ih =>
      intro h hp
      rcases ih _ hp with h1 | ⟨x, hx, h1⟩
      · rcases ZyP h1 with rfl | h2
        · exact .inr ⟨y, List.mem_cons_self, rfl⟩
        · exact .inl h2
      · exact .inr ⟨x, List.mem_cons_of_mem _ hx, h1⟩
  rcases this c [] hp with h | h
  · cases h
  · exact h
theorem YcC {c : List Cus} {p : Option (List UInt8)} (hn : namL p c = true) : lkM (Ybv c) = lkC c := by
  have : ∀ (c : List Cus) (p : Option (List UInt8)) (h : List (List UInt8 × List Val)) (k : List UInt8), namL p c = true → Zbu BEq.beq k (c.foldl (fun h x => Zgu BEq.beq x.name x.val h) h) = (match lkC c k with
      | some x => some x
      | none => Zbu BEq.beq k h) := by
    intro c
    induction c with
    | nil => intro p h k _; rfl
    | cons y c ih =>
      intro p h k hn
      obtain ⟨h1, h2⟩ := Zlf hn
      simp only [List.foldl_cons, lkC]
      rw [ih _ _ _ h2, ZpA]
      by_cases e : (y.name == k) = true
      · rw [if_pos e]
        have e1 : y.name = k := by simpa using e
        have e2 : (k == y.name) = true := by simp [e1]
        have e3 : lkC c k = none := by
          cases e3 : lkC c k with
          | none => rfl
          | some x =>
            exfalso
            clear ih hn h2
            induction c with
            | nil => cases e3
            | cons z c ih2 =>
              simp only [lkC] at e3
              split at e3
              · rename_i hz
                have : z.name = k := by simpa using hz
                exact h1 z List.mem_cons_self (this.trans e1.symm)
              · exact ih2 (fun x hx => h1 x (List.mem_cons_of_mem _ hx)) e3
        rw [e3, e2]; rfl
      · rw [if_neg e]
        have e2 : (k == y.name) = false := by
          rw [Bool.not_eq_true, beq_eq_false_iff_ne] at e
          rw [beq_eq_false_iff_ne]; exact fun h => e h.symm
        rw [e2]
        cases lkC c k <;> rfl
  funext k
  unfold lkM Ybv
  rw [this c p [] k hn]
  cases lkC c k <;> rfl
end Go.Tev
namespace Go.Tev.S1
open Go.Abs Go.Proofs
def Zpp (c : List Cus) : Option Bool := if c.length ≤ B then some (namL none c) else none
theorem Zqz {c : List Cus} (h : c.length ≤ B) : Zpp c = some (namL none c) := if_pos h
def YbG (p : Option (List UInt8)) (v : Cus) : Bool := Zco v.name && (match p with
  | none => true
  | some q => Op.bytesLess q v.name)
theorem Ycz (l : List Cus) : ∀ p, ZlH (fun (p : Option (List UInt8)) v => if YbG p v = true then .inl (some v.name) else .inr (some false)) (fun _ => some true) l p = some (namL p l) := by
  induction l with
  | nil => intro p; rw [namL.eq_def]; rfl
  | cons v l ih =>
    intro p
    simp only [ZlH]
    have e : namL p (v :: l) = (YbG p v && namL (some v.name) l) := by rw [namL.eq_def]; rfl
    rw [e]
    by_cases h : YbG p v = true
    · rw [if_pos h, h]; exact ih _
    · rw [if_neg h, (Bool.not_eq_true _).mp h]; rfl
def YbT : Option (List UInt8) → List UInt8
  | none => []
  | some q => q
theorem Zui (c : List Cus) (h : c.length ≤ B) : Zhs (fun p => some (Zco p)) (c.length + 1) c = some (namL none c) := by
  have hB : B = 2 ^ 36 := rfl
  unfold Zhs
  refine (Zhb c (fun (_ : Option (List UInt8)) => false) YbT (fun p v => if YbG p v = true then .inl (some v.name) else .inr (some false)) (fun _ => some true) (fun i b => True) ?_ ?_ ?_ none trivial _ (Nat.lt_succ_self _)).trans (Ycz c none)
  · intro i b v k' hv hlt hb
    have hi : IntKind.i64.wrap ((i : Int) + 1) = ((i + 1 : Nat) : Int) := wrap_add1 (by omega)
    simp only [Zes, Zct hv, Option.bind_some, dlt hlt, cond_true, hi]
    have key : (bif !Zco v.name then true else (Op.bytesLess v.name (YbT b) || v.name == YbT b)) = !YbG b v := by
      unfold YbG
      cases e1 : Zco v.name
      · rfl
      · have hne := Zqi e1
        cases b with
        | none =>
          cases e3 : v.name with
          | nil => exact absurd e3 hne
          | cons x r => rfl
        | some q =>
          change (Op.bytesLess v.name q || v.name == q) = !(true && Op.bytesLess q v.name)
          rw [← Ztd v.name q, Bool.true_and, Bool.not_not]
    rw [key]
    cases YbG b v <;> rfl
  · intro i b v b' hv hb hs; trivial
  · intro b k' hb
    simp only [Zes, ZrM, cond_false]
theorem ZuT {K : Zaa} (hK : Zde K) : ZaC U (Zac C K) 42 ⟨true, [.ty 23], [4], Zpp⟩ :=
  Zj4 (kf hK 42 (by decide)) _ (Ztt hK) _ fun a r h => by
    unfold Zpp at h
    split at h
    · rename_i h3; cases h; exact ⟨_, Zui a h3⟩
    · cases h
def Yd8 (c : List Cus) : Option Mp := if c.length ≤ B then some (Ybv c) else none
theorem Ycn {c : List Cus} (h : c.length ≤ B) : Yd8 c = some (Ybv c) := if_pos h
theorem Zug (c : List Cus) (h : c.length ≤ B) : Zg0 (c.length + 1) c = some (Ybv c) := by
  have hB : B = 2 ^ 36 := rfl
  unfold Zg0
  refine (Zh5 c (fun (b : Mp) => b) (fun b v => .inl (Zgu BEq.beq v.name v.val b)) (fun b => some b) (fun i b => True) ?_ ?_ ?_ [] trivial _ (Nat.lt_succ_self _)).trans ?_
  · intro i b v k' hv hlt hb
    have hi : IntKind.i64.wrap ((i : Int) + 1) = ((i + 1 : Nat) : Int) := wrap_add1 (by omega)
    simp only [ZeE, Zct hv, Option.bind_some, dlt hlt, cond_true, hi]
  · intro i b v b' hv hb hs; trivial
  · intro b k' hb
    simp only [ZeE, ZrM, cond_false]
  · rw [Zef (fun (b : Mp) (v : Cus) => Zgu BEq.beq v.name v.val b)]; rfl
theorem Ybo {K : Zaa} (hK : Zde K) : ZaC U (Zac C K) 35 ⟨false, [.ty 23], [60], Yd8⟩ :=
  Zkj (kf hK 35 (by decide)) _ fun a r h => by
    unfold Yd8 at h
    split at h
    · rename_i h3; cases h; exact ⟨_, Zug a h3⟩
    · cases h
def Zlw (v : Cus) : Bool := (Za0 v.val != 0) || ZbD v.val || decide (Zaz v.val > 2000)
def YcE : List Cus → Int
  | [] => 0
  | v :: r => if Zlw v then 8 else YcE r
def ZsW (c : List Cus) : Int := if c.length > 64 ∨ namL none c = false then 8 else YcE c
def Zgv (c : List Cus) : Prop := c.length ≤ B ∧ ∀ v ∈ c, Zaz v.val ≤ V
instance (a) : Decidable (Zgv a) := inferInstanceAs (Decidable (_ ∧ _))
def Yea (c : List Cus) : Option Int := if Zgv c then some (ZsW c) else none
theorem ZwE {c : List Cus} (h : Zgv c) : Yea c = some (ZsW c) := if_pos h
theorem YaG (l : List Cus) : ZlH (fun (_ : Unit) v => if Zlw v = true then .inr (some (8 : Int)) else .inl ()) (fun _ => some (0 : Int)) l () = some (YcE l) := by
  induction l with
  | nil => rfl
  | cons v l ih =>
    simp only [ZlH, YcE]
    by_cases h : Zlw v = true
    · rw [if_pos h, if_pos h]
    · rw [if_neg h, if_neg h]; exact ih
theorem Zyo (c : List Cus) (h : Zgv c) : Zg6 Zpp ZjY Zz9 ZnQ (c.length + 1) c = some (ZsW c) := by
  have hB : B = 2 ^ 36 := rfl
  have hV : V = 2 ^ 24 := rfl
  obtain ⟨hl, hm⟩ := h
  unfold Zg6 ZsW
  by_cases h1 : c.length > 64
  · have : decide ((c.length : Int) > 64) = true := by simp; omega
    rw [this, if_pos (.inl h1)]; rfl
  · have e : decide ((c.length : Int) > 64) = false := by simp; omega
    simp only [e, Bool.not_false, cond_true, cond_false, Zqz hl, Option.bind_some]
    cases h2 : namL none c
    · rw [if_pos (.inr rfl)]; rfl
    · rw [if_neg (by simp; omega)]
      simp only [Bool.not_true, cond_false]
      refine (ZdX c (fun (_ : Unit) => (0 : Int)) (fun _ v => if Zlw v = true then .inr (some (8 : Int)) else .inl ()) (fun _ => some (0 : Int)) (fun i b => True) ?_ ?_ ?_ () trivial _ (Nat.lt_succ_self _)).trans (YaG c)
      · intro i b v k' hv hlt hb
        have hvm := hm v (List.mem_of_getElem? hv)
        have hi : IntKind.i64.wrap ((i : Int) + 1) = ((i + 1 : Nat) : Int) := wrap_add1 (by omega)
        have hd : decide ((Zaz v.val : Int) > 2000) = decide (Zaz v.val > 2000) := by simp; omega
        simp only [Zex, Zct hv, Option.bind_some, dlt hlt, cond_true, hi, ZfB (show Zaz v.val ≤ B by omega), Zru (show Zaz v.val ≤ B by omega), Zkr (show Zaz v.val ≤ B by omega)]
        unfold Zlw
        cases e1 : (Za0 v.val != 0) <;> cases e2 : ZbD v.val <;> cases e3 : decide (Zaz v.val > 2000) <;> rw [e3] at hd <;> first | rfl | simp [hd]
      · intro i b v b' hv hb hs; trivial
      · intro b k' hb
        simp only [Zex, ZrM, cond_false]
theorem Zwh {K : Zaa} (hK : Zde K) : ZaC U (Zac C K) 22 ⟨true, [.ty 23], [28], Yea⟩ :=
  Zkm (kf hK 22 (by decide)) _ _ _ _ (ZuT hK) (ZeN (kf hK 33 (by decide)) (kf hK 52 (by decide)) (kf hK 66 (by decide))) (Ydb hK) (Zv0 hK) _ fun a r h => by
    unfold Yea at h
    split at h
    · rename_i h3; cases h; exact ⟨_, Zyo a h3⟩
    · cases h
end Go.Tev.S1
namespace Go.Tev.S1
open Go.Abs Go.Proofs
def ZfG (lk : Lk) (l : List Val) : List Val × Int := match ZeH lk l with
  | none => ([], 6)
  | some n => if 2000 < n ∧ ZbD l = true then ([], 28) else if Za0 (Zei lk l) = 0 then (Zei lk l, 0) else ([], Za0 (Zei lk l))
def okR (lk : Lk) (l : List Val) : Prop := Zaz l ≤ B ∧ Yc0 lk
open Classical in
noncomputable def Zks (a : List Val × Mp) : Option (List Val × Int) := if okR (lkM a.2) a.1 ∧ ∀ p ∈ a.2, Zaz p.2 ≤ V then some (ZfG (lkM a.2) a.1) else none
theorem ZlC {l : List Val} {m : Mp} (h : okR (lkM m) l) (h2 : ∀ p ∈ m, Zaz p.2 ≤ V) : Zks (l, m) = some (ZfG (lkM m) l) := if_pos ⟨h, h2⟩
theorem Zz4 {lk : Lk} {l : List Val} (h : okR lk l) {n : Nat} (hn : ZeH lk l = some n) (h2 : ¬ (2000 < n ∧ ZbD l = true)) : okP lk l ∧ Zaz (Zei lk l) ≤ B := by
  have hB : B = 2 ^ 36 := rfl
  have : n ≤ B := by
    by_cases h3 : 2000 < n
    · cases e : ZbD l with
      | true => exact absurd ⟨h3, e⟩ h2
      | false =>
        rw [ZiD lk l e] at hn
        cases hn
        exact h.1
    · omega
  exact ⟨⟨h.1, h.2, n, hn, this⟩, by rw [Zxf lk l n hn]; exact this⟩
theorem ZqF (m : Mp) (l : List Val) (h : okR (lkM m) l) (hm : ∀ p ∈ m, Zaz p.2 ≤ V) : Ze6 Zz7 Zz9 YaF ZjY 0 l m = some (ZfG (lkM m) l) := by
  unfold Ze6 ZfG
  rw [ZrV h.1 hm]
  cases e : ZeH (lkM m) l with
  | none =>
    rw [Zix e]; rfl
  | some n =>
    rw [ZhU e]
    have e1 : decide ((n : Int) < 0) = false := by simp
    simp only [Option.bind_some, e1, cond_false, Zru h.1]
    by_cases h2 : 2000 < n ∧ ZbD l = true
    · have e2 : decide ((n : Int) > 2000) = true := by simp; omega
      rw [if_pos h2]
      simp only [e2, h2.2, cond_true, Option.bind_some]
    · obtain ⟨g1, g2⟩ := Zz4 h e h2
      have e2 : (bif decide ((n : Int) > 2000) then ZbD l else false) = false := by
        by_cases h3 : 2000 < n
        · have : ZbD l = false := by
            cases e : ZbD l with
            | true => exact absurd ⟨h3, e⟩ h2
            | false => rfl
          rw [this]; simp
        · have : decide ((n : Int) > 2000) = false := by simp; omega
          rw [this]; rfl
      rw [if_neg h2]
      have e3 : ∀ (X : Option Bool), (Option.bind (bif decide ((n : Int) > 2000) then some (ZbD l) else some false) fun r2 => (some (bif decide ((n : Int) > 2000) then r2 else false))) = some false := by
        intro X
        rw [← e2]
        cases decide ((n : Int) > 2000) <;> rfl
      cases e4 : decide ((n : Int) > 2000)
      · simp only [cond_false, Option.bind_some, Zrz g1, ZfB g2]
        by_cases h5 : Za0 (Zei (lkM m) l) = 0
        · have : (Za0 (Zei (lkM m) l) != 0) = false := by simpa using h5
          rw [this, if_pos h5]; rfl
        · have : (Za0 (Zei (lkM m) l) != 0) = true := by simpa using h5
          rw [this, if_neg h5]; rfl
      · have e5 : ZbD l = false := by rw [e4] at e2; exact e2
        simp only [cond_true, e5, cond_false, Option.bind_some, Zrz g1, ZfB g2]
        by_cases h5 : Za0 (Zei (lkM m) l) = 0
        · have : (Za0 (Zei (lkM m) l) != 0) = false := by simpa using h5
          rw [this, if_pos h5]; rfl
        · have : (Za0 (Zei (lkM m) l) != 0) = true := by simpa using h5
          rw [this, if_neg h5]; rfl
theorem Zo6 {K : Zaa} (hK : Zde K) : ZaC U (Zac C K) 34 ⟨true, [.ty 22, .ty 60], [22, 28], Zks⟩ :=
  Ziy (kf hK 34 (by decide)) _ _ _ _ (Zxx hK) (Ydb hK) (Yfj hK) (ZeN (kf hK 33 (by decide)) (kf hK 52 (by decide)) (kf hK 66 (by decide))) _ fun a r h => by
    unfold Zks at h
    split at h
    · rename_i h3; cases h; exact ⟨0, ZqF a.2 a.1 h3.1 h3.2⟩
    · cases h
def Zxv (l : List Val) (c : List Cus) : List Val × Int := if Za0 l ≠ 0 then ([], Za0 l) else if ZsW c ≠ 0 then ([], ZsW c) else ZfG (lkC c) l
def Zlk (a : List Val × List Cus) : Option (List Val × Int) := if Zaz a.1 ≤ B ∧ Zgv a.2 then some (Zxv a.1 a.2) else none
theorem ZpM {l : List Val} {c : List Cus} (h : Zaz l ≤ B) (h2 : Zgv c) : Zlk (l, c) = some (Zxv l c) := if_pos ⟨h, h2⟩
theorem Ybm {c : List Cus} (h : YcE c = 0) : ∀ v ∈ c, ZbD v.val = false := by
  induction c with
  | nil => intro v hv; cases hv
  | cons y c ih =>
    simp only [YcE] at h
    split at h
    · cases h
    · rename_i h2
      intro v hv
      rcases List.mem_cons.1 hv with rfl | hv
      · rw [Bool.not_eq_true, Zlw, Bool.or_eq_false_iff, Bool.or_eq_false_iff] at h2
        exact h2.1.2
      · exact ih h v hv
theorem YdN {c : List Cus} (h : ZsW c = 0) (h2 : Zgv c) : Yc0 (lkC c) ∧ namL none c = true := by
  unfold ZsW at h
  split at h
  · cases h
  · rename_i h3
    have h4 : namL none c = true := by
      cases e : namL none c with
      | true => rfl
      | false => exact absurd (.inr e) h3
    refine ⟨fun n x hx => ?_, h4⟩
    obtain ⟨p, hp, rfl⟩ := YbQ hx
    exact ⟨h2.2 p hp, Ybm h p hp⟩
theorem ZpT (l : List Val) (c : List Cus) (h : Zaz l ≤ B) (h2 : Zgv c) : Zfa ZjY Yea Yd8 Zks 0 l c = some (Zxv l c) := by
  unfold Zfa Zxv
  simp only [ZfB h, ZwE h2, Ycn h2.1, Option.bind_some]
  by_cases h3 : Za0 l = 0
  · have e3 : (Za0 l != 0) = false := by simpa using h3
    rw [if_neg (by simp [h3]), e3]
    simp only [cond_false]
    by_cases h4 : ZsW c = 0
    · have e4 : (ZsW c != 0) = false := by simpa using h4
      obtain ⟨g1, g2⟩ := YdN h4 h2
      have g3 := YcC g2
      have g4 : ∀ p ∈ Ybv c, Zaz p.2 ≤ V := by
        intro p hp
        obtain ⟨x, hx, e⟩ := Ya6 hp
        rw [e]; exact h2.2 x hx
      rw [if_neg (by simp [h4]), e4, ZlC (by rw [g3]; exact ⟨h, g1⟩) g4, g3]
      rfl
    · have e4 : (ZsW c != 0) = true := by simpa using h4
      rw [if_pos h4, e4]; rfl
  · have e3 : (Za0 l != 0) = true := by simpa using h3
    rw [if_pos h3, e3]; rfl
theorem ZwL {K : Zaa} (hK : Zde K) : ZaC U (Zac C K) 12 ⟨true, [.ty 22, .ty 23], [22, 28], Zlk⟩ :=
  ZiT (kf hK 12 (by decide)) _ _ _ _ (ZeN (kf hK 33 (by decide)) (kf hK 52 (by decide)) (kf hK 66 (by decide))) (Zwh hK) (Ybo hK) (Zo6 hK) _ fun a r h => by
    unfold Zlk at h
    split at h
    · rename_i h3; cases h; exact ⟨0, ZpT a.1 a.2 h3.1 h3.2⟩
    · cases h
end Go.Tev.S1
namespace Go.Tev
open Go.Abs
mutual
def Val.uses : Val → List (List UInt8)
  | .mk t l => (if (t.k == 2 && (Ze8 t.t == [118, 97, 114])) && ((ZaA l).1 != []) then [(ZaA l).1] else []) ++ Zbt l
def Zbt : List Val → List (List UInt8)
  | [] => []
  | v :: r => v.uses ++ Zbt r
end
theorem Val.uses_eq (v : Val) : v.uses = (if v.ref && ((ZaA v.l).1 != []) then [(ZaA v.l).1] else []) ++ Zbt v.l := by cases v; rfl
theorem ZoR (a b : List Val) : Zbt (a ++ b) = Zbt a ++ Zbt b := by
  induction a with
  | nil => rfl
  | cons v a ih => simp only [List.cons_append, Zbt, ih, List.append_assoc]
theorem Ydg {α : Type} (c : Bool) (n : α) : (if c = true then [n] else []).length ≤ 1 := by cases c <;> simp
mutual
theorem Zyq : ∀ v : Val, v.uses.length ≤ v.tot
  | .mk t l => by
    have := ZiA l
    rw [Val.uses_eq, Val.tot_eq]
    simp only [Val.l, Val.tok, List.length_append]
    exact Nat.le_trans (Nat.add_le_add_right (Ydg _ _) _) (by omega)
theorem ZiA : ∀ l : List Val, (Zbt l).length ≤ Zaz l
  | [] => Nat.le_refl _
  | v :: r => by
    have h1 := Zyq v
    have h2 := ZiA r
    simp only [Zbt, Zaz, List.length_append]; omega
end
abbrev Bm := List (List UInt8 × Bool)
def Zeo (h : Bm) (l : List Val) : Bm := (Zbt l).foldl (fun h n => Zgu BEq.beq n true h) h
theorem ZuX (h : Bm) (l : List Val) (v : Val) : Zeo h (l ++ [v]) = (v.uses).foldl (fun h n => Zgu BEq.beq n true h) (Zeo h l) := by
  unfold Zeo
  rw [ZoR, List.foldl_append]
  simp [Zbt]
end Go.Tev
namespace Go.Tev.S1
open Go.Abs Go.Proofs
def YbU (l : List Val) (cs : Bm × Unit) : Option (Unit × (Bm × Unit)) := if Zaz l ≤ B then some ((), (Zeo cs.1 l, ())) else none
theorem Zrm {l : List Val} {h : Bm} (h1 : Zaz l ≤ B) : YbU l (h, ()) = some ((), (Zeo h l, ())) := if_pos h1
theorem Zyn (l : List Val) (h : Bm) (k : Nat) (h1 : Zaz l < k + 1) (h2 : Zaz l ≤ B) : Ze7 (fun v => some v.ref) ZmP (fun a cs => if Zaz a < k then YbU a cs else none) (l.length + 1) l h = some ((), (Zeo h l, ())) := by
  have hB : B = 2 ^ 36 := rfl
  unfold Ze7
  refine (Zh5 l (fun b => Zeo h b) (fun b v => .inl (b ++ [v])) (fun b => some ((), (Zeo h b, ()))) (fun i b => b = l.take i) ?_ ?_ ?_ [] rfl _ (Nat.lt_succ_self _)).trans ?_
  · intro i b v k' hv hlt hb
    subst hb
    have hmem := List.mem_of_getElem? hv
    have hs := ZfL hmem
    have hm1 := ZkH hmem
    have hl := Zf2 l
    have hi : IntKind.i64.wrap ((i : Int) + 1) = ((i + 1 : Nat) : Int) := wrap_add1 (by omega)
    have hbel : ∀ g : Bm, (if Zaz v.l < k then YbU v.l (g, ()) else none) = some ((), (Zeo g v.l, ())) := fun g => (if_pos (by omega)).trans (Zrm (by omega))
    simp only [Zdw, Zct hv, Option.bind_some, dlt hlt, cond_true, Val.eta, hi, Bool.cond_self, hbel, ZuX, Val.uses_eq, List.foldl_append]
    cases e1 : v.ref
    · simp only [cond_false, Bool.false_and, Bool.false_eq_true, if_false, List.foldl_nil]; rfl
    · simp only [cond_true, Bool.true_and, Option.bind_some, Zlg (show v.tot ≤ B by omega)]
      cases e2 : ((ZaA v.l).1 != [])
      · simp only [cond_false, Bool.false_eq_true, if_false, List.foldl_nil]; rfl
      · simp only [cond_true, if_true, List.foldl_cons, List.foldl_nil]; rfl
  · intro i b v b' hv hb hs
    cases hs
    rw [Zcm hv, hb]
  · intro b k' hb
    simp only [Zdw, ZrM, cond_false]
  · rw [Zef (fun (b : List Val) (v : Val) => b ++ [v]), Zg7]
theorem Zpt {K : Zaa} (hK : Zde K) : Zee U (Zac C K) 36 ⟨[.ty 22, .ref (.map 9 4)], [], YbU⟩ :=
  Zud (U := U) (ak := [.ty 22, .ref (.map 9 4)]) (rts := []) Zaz YbU fun k ih => Ziw (kf hK 36 (by decide)) _ _ _ (ZrY hK) (Zq6 hK) ih _ fun a cs r h => by
    by_cases h1 : Zaz a < k + 1
    · have h2 : YbU a cs = some r := (if_pos h1).symm.trans h
      unfold YbU at h2
      by_cases h3 : Zaz a ≤ B
      · rw [if_pos h3] at h2; cases h2; exact ⟨_, Zyn a cs.1 k h1 h3⟩
      · rw [if_neg h3] at h2; cases h2
    · have h2 : none = some r := (if_neg h1).symm.trans h
      cases h2
end Go.Tev.S1
namespace Go.Tev
open Go.Abs
def ZrK (x : List UInt8) : List (List UInt8) → List (List UInt8)
  | [] => [x]
  | y :: r => if Op.bytesLess y x then y :: ZrK x r else if y == x then y :: r else x :: y :: r
def Zf6 (l : List (List UInt8)) : List (List UInt8) := l.foldl (fun o x => ZrK x o) []
theorem Zsm (x : List UInt8) : ∀ l, (ZrK x l).length ≤ l.length + 1
  | [] => Nat.le_refl _
  | y :: r => by
    have := Zsm x r
    unfold ZrK
    split
    · simp; omega
    · split <;> simp
end Go.Tev
namespace Go.Tev.S1
open Go.Abs Go.Proofs
theorem ZwI (l : List (List UInt8)) : (Zf6 l).length ≤ l.length := by
  have : ∀ (l o : List (List UInt8)), (l.foldl (fun o x => ZrK x o) o).length ≤ o.length + l.length := by
    intro l
    induction l with
    | nil => intro o; simp
    | cons x l ih =>
      intro o
      have h1 := ih (ZrK x o)
      have h2 := Zsm x o
      simp only [List.foldl_cons, List.length_cons]
      omega
  simpa [Zf6] using this l []
end Go.Tev.S1
