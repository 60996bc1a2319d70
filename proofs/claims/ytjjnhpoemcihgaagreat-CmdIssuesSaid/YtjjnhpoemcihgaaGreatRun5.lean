/-
  Runs of 'complinelaw28.CmdIssues', worked out by the kernel.
-/
import Derived.Test.YtjjnhpoemcihgaaGreatRun0
namespace Go.Proofs.YtjjnhpoemcihgaaGreat
open Go.Ev
set_option maxRecDepth 1000000 in
theorem run4_4 : (known [81, 66] [85, 83, 68] && known [82, 65] [88]) = true := by kernel_rfl
set_option maxRecDepth 1000000 in
theorem run5_1 : (known [82, 65] [89] && known [82, 65] [90]) = true := by kernel_rfl
set_option maxRecDepth 1000000 in
theorem run5_3 : (known [82, 65] [69, 85, 82] && known [82, 65] [85, 83, 68]) = true := by kernel_rfl
end Go.Proofs.YtjjnhpoemcihgaaGreat
