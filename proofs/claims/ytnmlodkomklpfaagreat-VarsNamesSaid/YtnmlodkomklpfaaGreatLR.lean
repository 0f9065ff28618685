/- A certified evaluator for the walked functions, and their contracts, for the laws of the variables. -/
import Derived.Test.YtnmlodkomklpfaaGreatLQ
import Derived.Test.YtnmlodkomklpfaaGreatLN
set_option linter.unusedVariables false
set_option linter.unusedSimpArgs false
set_option maxRecDepth 100000
namespace Go.Abs
open Go.Proofs Go.Tev.S1
theorem YeG : Zbf C Kno 80 20 [.d (.str [102, 40, 118, 97, 114, 40, 45, 45, 97, 41, 41]), .d (ZqR), .d (.str [102, 40, 49, 41])] [] = some (.d (.bool true), []) := by kernel_rfl
theorem YfW : Zbf C Kno 80 20 [.d (.str [118, 97, 114, 40, 45, 45, 97, 44, 32, 118, 97, 114, 40, 41, 41]), .d (ZqR), .d (.str [49])] [] = some (.d (.bool true), []) := by kernel_rfl
theorem Yez : Zbf C Kno 80 21 [.d (.str [118, 97, 114, 40, 45, 45, 41]), .d (ZqR), .d (.int .i64 6)] [] = some (.d (.bool true), []) := by kernel_rfl
theorem YfL : Zbf C Kno 80 21 [.d (.str [118, 97, 114, 40, 34, 45, 45, 97, 34, 41]), .d (ZqR), .d (.int .i64 6)] [] = some (.d (.bool true), []) := by kernel_rfl
theorem Yfa : Zbf C Kno 80 21 [.d (.str [49]), .d (.slc [cG [45, 45, 98] [tG 10 [] 1000 true []], cG [45, 45, 97] [tG 10 [] 1000 true []]]), .d (.int .i64 8)] [] = some (.d (.bool true), []) := by kernel_rfl
theorem Yeo : Zbf C Kno 80 19 [.d (.str [45, 45, 97]), .d (.str [49])] [] = some (.d (cG [45, 45, 97] [tG 10 [] 1000 true []]), []) := by kernel_rfl
theorem Yfo : Zbf C Kno 80 19 [.d (.str [45, 45, 98]), .d (.str [49])] [] = some (.d (cG [45, 45, 98] [tG 10 [] 1000 true []]), []) := by kernel_rfl
theorem YeW : Zbf C Kno 80 22 [.d (.slc [cG [45, 45, 97] [tG 10 [] 1000 true []], cG [45, 45, 97] [tG 10 [] 1000 true []]])] [] = some (.d (.int .i64 8), []) := by kernel_rfl
theorem YeF : Zbf C Kno 80 12 [.d (.slc [tG 21 [] 0 false [tG 21 [] 0 false [tG 21 [] 0 false [tG 21 [] 0 false [tG 21 [] 0 false [tG 21 [] 0 false [tG 21 [] 0 false [tG 21 [] 0 false [tG 21 [] 0 false [tG 21 [] 0 false [tG 21 [] 0 false [tG 21 [] 0 false [tG 21 [] 0 false [tG 21 [] 0 false [tG 21 [] 0 false [tG 21 [] 0 false [tG 21 [] 0 false [tG 10 [] 1000 true []]]]]]]]]]]]]]]]]]]), .d (.slc [])] [] = some (.d (.tup [.slc [], .int .i64 20]), []) := by kernel_rfl
theorem Yfe : Zbf C Kno 80 23 [.d (.str [118, 97, 114, 40, 45, 45, 102, 41, 49])] [] = some (.d (.slc [tG 2 [118, 97, 114] 0 false [tG 1 [45, 45, 102] 0 false []], tG 10 [] 1000 true []]), []) := by kernel_rfl
theorem Yfp : Zbf C Kno 80 16 [.d (.slc (List.replicate 65 (cG [] [])))] [] = some (.d (.tup [.slc [], .int .i64 4]), []) := by kernel_rfl
theorem Ye8 : Zbf C Kno 80 23 [.d (.str [97, 98, 32, 51, 112, 120, 32, 40, 99, 41])] [] = some (.d (.slc [tG 1 [97, 98] 0 false [], tG 13 [] 0 false [], .agg [.int .u8 12, .str [], .int .i64 3000, .str [112, 120], .bool true, .slc []], tG 13 [] 0 false [], tG 21 [] 0 false [tG 1 [99] 0 false []]]), []) := by kernel_rfl
theorem YeT : Zbf C Kno 80 19 [.d (.str [45, 45, 103]), .d (.str [50])] [] = some (.d (cG [45, 45, 103] [tG 10 [] 2000 true []]), []) := by kernel_rfl
end Go.Abs
