/-
  Runs of 'complinelaw28.CmdIssues', worked out by the kernel.
-/
import Derived.Test.YtjjnhpoemcihgaaGreatRun0
namespace Go.Proofs.YtjjnhpoemcihgaaGreat
open Go.Ev
set_option maxRecDepth 1000000 in
theorem run1_1 : (known [80, 65] [89] && known [80, 65] [90]) = true := by kernel_rfl
set_option maxRecDepth 1000000 in
theorem run1_3 : (known [80, 65] [69, 85, 82] && known [80, 65] [85, 83, 68]) = true := by kernel_rfl
set_option maxRecDepth 1000000 in
theorem run2_0 : (known [80, 66] [88] && known [80, 66] [89]) = true := by kernel_rfl
end Go.Proofs.YtjjnhpoemcihgaaGreat
