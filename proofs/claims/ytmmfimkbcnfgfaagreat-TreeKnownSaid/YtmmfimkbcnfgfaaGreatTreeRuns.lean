/-
  'cisternlaw11.TreeKnown', reckoned by the kernel: the abstract evaluator says true.
-/
import Derived.Test.YtmmfimkbcnfgfaaGreatAwake
namespace Go.Proofs.YtmmfimkbcnfgfaaGreat.treeKnown
open Go.Ev
theorem runs : saysTrue (evCall Tryz.prog ovr2 100000 60 3 [] AH.empty) = true := by kernel_rfl
end Go.Proofs.YtmmfimkbcnfgfaaGreat.treeKnown
