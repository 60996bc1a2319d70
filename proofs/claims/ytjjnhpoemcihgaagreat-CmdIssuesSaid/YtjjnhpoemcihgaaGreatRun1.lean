/-
  Runs of 'complinelaw28.CmdIssues', worked out by the kernel.
-/
import Derived.Test.YtjjnhpoemcihgaaGreatRun0
namespace Go.Proofs.YtjjnhpoemcihgaaGreat
open Go.Ev
set_option maxRecDepth 1000000 in
theorem run0_0 : (known [66, 65, 78, 75] [88] && known [66, 65, 78, 75] [89]) = true := by kernel_rfl
set_option maxRecDepth 1000000 in
theorem run0_2 : (known [66, 65, 78, 75] [90] && known [66, 65, 78, 75] [69, 85, 82]) = true := by kernel_rfl
set_option maxRecDepth 1000000 in
theorem run0_4 : (known [66, 65, 78, 75] [85, 83, 68] && known [80, 65] [88]) = true := by kernel_rfl
end Go.Proofs.YtjjnhpoemcihgaaGreat
