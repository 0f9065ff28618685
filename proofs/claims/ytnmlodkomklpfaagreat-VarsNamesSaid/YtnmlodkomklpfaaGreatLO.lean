/- A certified evaluator for the walked functions, and their contracts, for the laws of the variables. -/
import Derived.Test.YtnmlodkomklpfaaGreatLN
set_option linter.unusedVariables false
set_option linter.unusedSimpArgs false
set_option maxRecDepth 100000
namespace Go.Abs
open Go.Proofs Go.Tev.S1
theorem run1 : Zbf C Kno 80 20 [.d (.str [86, 65, 82, 40, 32, 45, 45, 97, 32, 41]), .d (ZqR), .d (.str [49])] [] = some (.d (.bool true), []) := by kernel_rfl
theorem run2 : Zbf C Kno 80 20 [.d (.str [91, 118, 97, 114, 40, 45, 45, 98, 41, 93]), .d (ZqR), .d (.str [91, 93])] [] = some (.d (.bool true), []) := by kernel_rfl
theorem run3 : Zbf C Kno 80 20 [.d (.str [97]), .d (.slc []), .d (.str [97])] [] = some (.d (.bool true), []) := by kernel_rfl
theorem run4 : Zbf C Kno 80 21 [.d (.str [118, 97, 114, 40, 45, 45, 97, 32, 45, 45, 98, 41]), .d (ZqR), .d (.int .i64 6)] [] = some (.d (.bool true), []) := by kernel_rfl
theorem run5 : Zbf C Kno 80 21 [.d (.str [118, 97, 114, 40, 45, 45, 65, 41]), .d (ZqR), .d (.int .i64 6)] [] = some (.d (.bool true), []) := by kernel_rfl
theorem run6 : Zbf C Kno 80 21 [.d (.str [49]), .d (.slc [cG [45, 45, 97] [tG 10 [] 1000 true []], cG [45, 45, 97] [tG 10 [] 1000 true []]]), .d (.int .i64 8)] [] = some (.d (.bool true), []) := by kernel_rfl
theorem run7 : Zbf C Kno 80 19 [.d (.str [97]), .d (.str [49])] [] = some (.d (cG [97] [tG 10 [] 1000 true []]), []) := by kernel_rfl
theorem run8 : Zbf C Kno 80 22 [.d (.slc [cG [45, 45, 98] [tG 10 [] 1000 true []], cG [45, 45, 97] [tG 10 [] 1000 true []]])] [] = some (.d (.int .i64 8), []) := by kernel_rfl
theorem run9 : Zbf C Kno 80 23 [.d (.str [40, 40, 40, 40, 40, 40, 40, 40, 40, 40, 40, 40, 40, 40, 40, 40, 49, 41, 41, 41, 41, 41, 41, 41, 41, 41, 41, 41, 41, 41, 41, 41, 41])] [] = some (.d (.slc [tG 21 [] 0 false [tG 21 [] 0 false [tG 21 [] 0 false [tG 21 [] 0 false [tG 21 [] 0 false [tG 21 [] 0 false [tG 21 [] 0 false [tG 21 [] 0 false [tG 21 [] 0 false [tG 21 [] 0 false [tG 21 [] 0 false [tG 21 [] 0 false [tG 21 [] 0 false [tG 21 [] 0 false [tG 21 [] 0 false [tG 21 [] 0 false [tG 10 [] 1000 true []]]]]]]]]]]]]]]]]]), []) := by kernel_rfl
theorem Yew : Zbf C Kno 80 23 [.d (.str [118, 97, 114, 40, 45, 45, 102, 41])] [] = some (.d (.slc [tG 2 [118, 97, 114] 0 false [tG 1 [45, 45, 102] 0 false []]]), []) := by kernel_rfl
theorem Yeq : Zbf C Kno 80 19 [.d (.str [45, 45, 103]), .d (.str [118, 97, 114, 40, 45, 45, 101, 44, 32, 50, 41])] [] = some (.d (cG [45, 45, 103] [tG 2 [118, 97, 114] 0 false [tG 1 [45, 45, 101] 0 false [], tG 18 [] 0 false [], tG 13 [] 0 false [], tG 10 [] 2000 true []]]), []) := by kernel_rfl
theorem YeB : Zbf C Kno 80 23 [.d (.str [118, 97, 114, 40, 45, 45, 98, 44, 32, 118, 97, 114, 40, 45, 45, 97, 41, 41, 32, 91, 118, 97, 114, 40, 45, 45, 98, 41, 93, 32, 118, 97, 114, 40, 45, 45, 41, 32, 118, 97, 114, 40, 99, 41])] [] = some (.d (.slc [tG 2 [118, 97, 114] 0 false [tG 1 [45, 45, 98] 0 false [], tG 18 [] 0 false [], tG 13 [] 0 false [], tG 2 [118, 97, 114] 0 false [tG 1 [45, 45, 97] 0 false []]], tG 13 [] 0 false [], tG 19 [] 0 false [tG 2 [118, 97, 114] 0 false [tG 1 [45, 45, 98] 0 false []]], tG 13 [] 0 false [], tG 2 [118, 97, 114] 0 false [tG 1 [45, 45] 0 false []], tG 13 [] 0 false [], tG 2 [118, 97, 114] 0 false [tG 1 [99] 0 false []]]), []) := by kernel_rfl
theorem Yft : Zbf C Kno 80 18 [.d (.slc [cG [45, 45, 101] [tG 10 [] 1000 true []]]), .d (.slc [cG [45, 45, 101] [tG 10 [] 1000 true []]])] [] = some (.d (.bool true), []) := by kernel_rfl
end Go.Abs
