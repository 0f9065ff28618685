/- A certified evaluator for the walked functions, and their contracts, for the laws of the variables. -/
import Derived.Test.YtnmlodkomklpfaaGreatLP
import Derived.Test.YtnmlodkomklpfaaGreatLN
set_option linter.unusedVariables false
set_option linter.unusedSimpArgs false
set_option maxRecDepth 100000
namespace Go.Abs
open Go.Proofs Go.Tev.S1
theorem YfF : Zbf C Kno 80 20 [.d (.str [118, 97, 114, 40, 45, 45, 120, 32, 44, 32, 32, 50, 32, 41]), .d (.slc []), .d (.str [50])] [] = some (.d (.bool true), []) := by kernel_rfl
theorem YfO : Zbf C Kno 80 20 [.d (.str [118, 97, 114, 40, 45, 45, 120, 44, 32, 118, 97, 114, 40, 45, 45, 121, 44, 32, 118, 97, 114, 40, 45, 45, 97, 41, 41, 41]), .d (ZqR), .d (.str [49])] [] = some (.d (.bool true), []) := by kernel_rfl
theorem YfE : Zbf C Kno 80 21 [.d (.str [118, 97, 114, 40, 45, 45, 120, 41]), .d (ZqR), .d (.int .i64 6)] [] = some (.d (.bool true), []) := by kernel_rfl
theorem Yep : Zbf C Kno 80 21 [.d (.str [118, 97, 114, 40, 45, 45, 120, 44, 32, 118, 97, 114, 40, 45, 45, 121, 41, 41]), .d (ZqR), .d (.int .i64 6)] [] = some (.d (.bool true), []) := by kernel_rfl
theorem YfU : Zbf C Kno 80 21 [.d (.str [49]), .d (.slc [cG [97] [tG 10 [] 1000 true []]]), .d (.int .i64 8)] [] = some (.d (.bool true), []) := by kernel_rfl
theorem YfM : Zbf C Kno 80 21 [.d (.str [49]), .d (.slc (List.replicate 65 (cG [] []))), .d (.int .i64 8)] [] = some (.d (.bool true), []) := by kernel_rfl
theorem Yfc : Zbf C Kno 80 19 [.d (.str [45, 45, 98]), .d (.str [])] [] = some (.d (cG [45, 45, 98] []), []) := by kernel_rfl
theorem YeE : Zbf C Kno 80 19 [.d (.str [45, 45, 97]), .d (.str [118, 97, 114, 40, 45, 45, 98, 41])] [] = some (.d (cG [45, 45, 97] [tG 2 [118, 97, 114] 0 false [tG 1 [45, 45, 98] 0 false []]]), []) := by kernel_rfl
theorem YeY : Zbf C Kno 80 22 [.d (.slc [cG [45, 45, 97] [tG 2 [118, 97, 114] 0 false [tG 1 [45, 45, 98] 0 false []]]])] [] = some (.d (.int .i64 8), []) := by kernel_rfl
theorem Yfl : Zbf C Kno 80 23 [.d (.str [40, 118, 97, 114, 40, 45, 45, 100, 41, 41])] [] = some (.d (.slc [tG 21 [] 0 false [tG 2 [118, 97, 114] 0 false [tG 1 [45, 45, 100] 0 false []]]]), []) := by kernel_rfl
theorem Yfw : Zbf C Kno 80 19 [.d (.str [45, 45, 101]), .d (.str [118, 97, 114, 40, 45, 45, 102, 44, 32, 49, 41])] [] = some (.d (cG [45, 45, 101] [tG 2 [118, 97, 114] 0 false [tG 1 [45, 45, 102] 0 false [], tG 18 [] 0 false [], tG 13 [] 0 false [], tG 10 [] 1000 true []]]), []) := by kernel_rfl
theorem YfV : Zbf C Kno 80 16 [.d (.slc [cG [45, 45, 98] [tG 10 [] 1000 true []], cG [45, 45, 97] [tG 10 [] 1000 true []]])] [] = some (.d (.tup [.slc [], .int .i64 8]), []) := by kernel_rfl
theorem YeO : Zbf C Kno 80 24 [.d (.slc [tG 1 [97, 98] 0 false [], tG 13 [] 0 false [], .agg [.int .u8 12, .str [], .int .i64 3000, .str [112, 120], .bool true, .slc []], tG 13 [] 0 false [], tG 21 [] 0 false [tG 1 [99] 0 false []]])] [] = some (.d (.tup [.int .i64 11, .int .i64 0]), []) := by kernel_rfl
theorem YeS : Zbf C Kno 80 25 [.d (.slc [.str [45, 45, 97], .str [45, 45, 98]]), .d (.slc [.str [45, 45, 97], .str [45, 45, 98]])] [] = some (.d (.bool true), []) := by kernel_rfl
end Go.Abs
