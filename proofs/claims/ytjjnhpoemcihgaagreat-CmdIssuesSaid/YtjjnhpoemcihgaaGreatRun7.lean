/-
  Runs of 'complinelaw28.CmdIssues', worked out by the kernel.
-/
import Derived.Test.YtjjnhpoemcihgaaGreatRun0
namespace Go.Proofs.YtjjnhpoemcihgaaGreat
open Go.Ev
set_option maxRecDepth 1000000 in
theorem runA0 : noAsset [66, 65, 78, 75] = true := by kernel_rfl
set_option maxRecDepth 1000000 in
theorem runA1 : noAsset [80, 65] = true := by kernel_rfl
set_option maxRecDepth 1000000 in
theorem runA2 : noAsset [80, 66] = true := by kernel_rfl
set_option maxRecDepth 1000000 in
theorem runA3 : noAsset [81, 65] = true := by kernel_rfl
set_option maxRecDepth 1000000 in
theorem runA4 : noAsset [81, 66] = true := by kernel_rfl
set_option maxRecDepth 1000000 in
theorem runA5 : noAsset [82, 65] = true := by kernel_rfl
set_option maxRecDepth 1000000 in
theorem runA6 : noAsset [82, 66] = true := by kernel_rfl
set_option maxRecDepth 1000000 in
theorem runS0 : noAccount [88] = true := by kernel_rfl
set_option maxRecDepth 1000000 in
theorem runS1 : noAccount [89] = true := by kernel_rfl
set_option maxRecDepth 1000000 in
theorem runS2 : noAccount [90] = true := by kernel_rfl
set_option maxRecDepth 1000000 in
theorem runS3 : noAccount [69, 85, 82] = true := by kernel_rfl
set_option maxRecDepth 1000000 in
theorem runS4 : noAccount [85, 83, 68] = true := by kernel_rfl
set_option maxRecDepth 1000000 in
theorem runN : neither = true := by kernel_rfl
end Go.Proofs.YtjjnhpoemcihgaaGreat
