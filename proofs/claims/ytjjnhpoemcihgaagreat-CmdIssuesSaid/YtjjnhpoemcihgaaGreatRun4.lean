/-
  Runs of 'complinelaw28.CmdIssues', worked out by the kernel.
-/
import Derived.Test.YtjjnhpoemcihgaaGreatRun0
namespace Go.Proofs.YtjjnhpoemcihgaaGreat
open Go.Ev
set_option maxRecDepth 1000000 in
theorem run3_3 : (known [81, 65] [69, 85, 82] && known [81, 65] [85, 83, 68]) = true := by kernel_rfl
set_option maxRecDepth 1000000 in
theorem run4_0 : (known [81, 66] [88] && known [81, 66] [89]) = true := by kernel_rfl
set_option maxRecDepth 1000000 in
theorem run4_2 : (known [81, 66] [90] && known [81, 66] [69, 85, 82]) = true := by kernel_rfl
end Go.Proofs.YtjjnhpoemcihgaaGreat
