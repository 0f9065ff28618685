/- A certified evaluator for the walked functions, and their contracts, for the laws of the variables. -/
import Derived.Test.YtnmlodkomklpfaaGreatLO
import Derived.Test.YtnmlodkomklpfaaGreatLN
set_option linter.unusedVariables false
set_option linter.unusedSimpArgs false
set_option maxRecDepth 100000
namespace Go.Abs
open Go.Proofs Go.Tev.S1
theorem Yfd : Zbf C Kno 80 20 [.d (.str [118, 97, 114, 40, 45, 45, 97, 44, 41]), .d (.slc []), .d (.str [])] [] = some (.d (.bool true), []) := by kernel_rfl
theorem Yfh : Zbf C Kno 80 20 [.d (.str [118, 97, 114, 40, 45, 45, 99, 41, 118, 97, 114, 40, 45, 45, 98, 41]), .d (ZqR), .d (.str [40, 120, 32, 121, 41])] [] = some (.d (.bool true), []) := by kernel_rfl
theorem YeL : Zbf C Kno 80 20 [.d (.str []), .d (ZqR), .d (.str [])] [] = some (.d (.bool true), []) := by kernel_rfl
theorem YfQ : Zbf C Kno 80 21 [.d (.str [118, 97, 114, 40, 44, 32, 49, 41]), .d (ZqR), .d (.int .i64 6)] [] = some (.d (.bool true), []) := by kernel_rfl
theorem Yee : Zbf C Kno 80 21 [.d (.str [40, 118, 97, 114, 40, 41, 41]), .d (ZqR), .d (.int .i64 6)] [] = some (.d (.bool true), []) := by kernel_rfl
theorem Yfu : Zbf C Kno 80 21 [.d (.str [49]), .d (.slc [cG [45, 45, 97] [tG 2 [118, 97, 114] 0 false [tG 1 [45, 45, 98] 0 false []]]]), .d (.int .i64 8)] [] = some (.d (.bool true), []) := by kernel_rfl
theorem Yfs : Zbf C Kno 80 19 [.d (.str [45, 45, 99]), .d (.str [40, 120, 32, 32, 121, 41])] [] = some (.d (cG [45, 45, 99] [tG 21 [] 0 false [tG 1 [120] 0 false [], tG 13 [] 0 false [], tG 1 [121] 0 false []]]), []) := by kernel_rfl
theorem Yfb : Zbf C Kno 80 22 [.d (.slc [cG [97] [tG 10 [] 1000 true []]])] [] = some (.d (.int .i64 8), []) := by kernel_rfl
theorem YfC : Zbf C Kno 80 22 [.d (.slc (List.replicate 65 (cG [] [])))] [] = some (.d (.int .i64 8), []) := by kernel_rfl
theorem YeU : Zbf C Kno 80 12 [.d (.slc [tG 21 [] 0 false [tG 2 [118, 97, 114] 0 false [tG 1 [45, 45, 100] 0 false []]]]), .d (.slc [cG [45, 45, 100] [tG 21 [] 0 false [tG 21 [] 0 false [tG 21 [] 0 false [tG 21 [] 0 false [tG 21 [] 0 false [tG 21 [] 0 false [tG 21 [] 0 false [tG 21 [] 0 false [tG 21 [] 0 false [tG 21 [] 0 false [tG 21 [] 0 false [tG 21 [] 0 false [tG 21 [] 0 false [tG 21 [] 0 false [tG 21 [] 0 false [tG 21 [] 0 false [tG 10 [] 1000 true []]]]]]]]]]]]]]]]]]])] [] = some (.d (.tup [.slc [], .int .i64 20]), []) := by kernel_rfl
theorem YeZ : Zbf C Kno 80 19 [.d (.str [45, 45, 101]), .d (.str [118, 97, 114, 40, 45, 45, 102, 41, 32, 118, 97, 114, 40, 45, 45, 102, 41])] [] = some (.d (cG [45, 45, 101] [tG 2 [118, 97, 114] 0 false [tG 1 [45, 45, 102] 0 false []], tG 13 [] 0 false [], tG 2 [118, 97, 114] 0 false [tG 1 [45, 45, 102] 0 false []]]), []) := by kernel_rfl
theorem YfI : Zbf C Kno 80 16 [.d (.slc [cG [45, 45, 97] [tG 21 [] 0 false [tG 21 [] 0 false [tG 21 [] 0 false [tG 21 [] 0 false [tG 21 [] 0 false [tG 21 [] 0 false [tG 21 [] 0 false [tG 21 [] 0 false [tG 21 [] 0 false [tG 21 [] 0 false [tG 21 [] 0 false [tG 21 [] 0 false [tG 21 [] 0 false [tG 21 [] 0 false [tG 21 [] 0 false [tG 21 [] 0 false [tG 21 [] 0 false [tG 10 [] 1000 true []]]]]]]]]]]]]]]]]]]])] [] = some (.d (.tup [.slc [], .int .i64 20]), []) := by kernel_rfl
theorem YfT : Zbf C Kno 80 19 [.d (.str [45, 45, 101]), .d (.str [49])] [] = some (.d (cG [45, 45, 101] [tG 10 [] 1000 true []]), []) := by kernel_rfl
end Go.Abs
