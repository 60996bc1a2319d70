/-
  Runs of 'complinelaw28.CmdIssues', worked out by the kernel.
-/
import Derived.Test.YtjjnhpoemcihgaaGreatRun0
namespace Go.Proofs.YtjjnhpoemcihgaaGreat
open Go.Ev
set_option maxRecDepth 1000000 in
theorem run2_2 : (known [80, 66] [90] && known [80, 66] [69, 85, 82]) = true := by kernel_rfl
set_option maxRecDepth 1000000 in
theorem run2_4 : (known [80, 66] [85, 83, 68] && known [81, 65] [88]) = true := by kernel_rfl
set_option maxRecDepth 1000000 in
theorem run3_1 : (known [81, 65] [89] && known [81, 65] [90]) = true := by kernel_rfl
end Go.Proofs.YtjjnhpoemcihgaaGreat
