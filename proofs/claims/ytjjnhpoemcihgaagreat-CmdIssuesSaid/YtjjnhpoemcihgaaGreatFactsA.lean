/-
  Rows of types, laid out as the model asks: part A.
-/
import Derived.Test.YtjjnhpoemcihgaaGreatRows
import Derived.JoinedOf
namespace Go.Proofs.YtjjnhpoemcihgaaGreat.cmdIssues
theorem row0 : ((List.range 64).all fun j => Nat.ble 735 (0 + j) || rowFine Tryz.prog (0 + j)) = true := by kernel_rfl
theorem row1 : ((List.range 64).all fun j => Nat.ble 735 (64 + j) || rowFine Tryz.prog (64 + j)) = true := by kernel_rfl
theorem row2 : ((List.range 64).all fun j => Nat.ble 735 (128 + j) || rowFine Tryz.prog (128 + j)) = true := by kernel_rfl
theorem row3 : ((List.range 64).all fun j => Nat.ble 735 (192 + j) || rowFine Tryz.prog (192 + j)) = true := by kernel_rfl
end Go.Proofs.YtjjnhpoemcihgaaGreat.cmdIssues
