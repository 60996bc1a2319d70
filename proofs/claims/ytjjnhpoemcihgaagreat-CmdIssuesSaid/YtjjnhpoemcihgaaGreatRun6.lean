/-
  Runs of 'complinelaw28.CmdIssues', worked out by the kernel.
-/
import Derived.Test.YtjjnhpoemcihgaaGreatRun0
namespace Go.Proofs.YtjjnhpoemcihgaaGreat
open Go.Ev
set_option maxRecDepth 1000000 in
theorem run6_0 : (known [82, 66] [88] && known [82, 66] [89]) = true := by kernel_rfl
set_option maxRecDepth 1000000 in
theorem run6_2 : (known [82, 66] [90] && known [82, 66] [69, 85, 82]) = true := by kernel_rfl
set_option maxRecDepth 1000000 in
theorem run6_4 : (known [82, 66] [85, 83, 68]) = true := by kernel_rfl
end Go.Proofs.YtjjnhpoemcihgaaGreat
