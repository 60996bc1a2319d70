/-
  Rows of types, laid out as the model asks: part B.
-/
import Derived.Test.YtjjnhpoemcihgaaGreatRows
import Derived.JoinedOf
namespace Go.Proofs.YtjjnhpoemcihgaaGreat.cmdIssues
theorem row4 : ((List.range 64).all fun j => Nat.ble 735 (256 + j) || rowFine Tryz.prog (256 + j)) = true := by kernel_rfl
theorem row5 : ((List.range 64).all fun j => Nat.ble 735 (320 + j) || rowFine Tryz.prog (320 + j)) = true := by kernel_rfl
theorem row6 : ((List.range 64).all fun j => Nat.ble 735 (384 + j) || rowFine Tryz.prog (384 + j)) = true := by kernel_rfl
theorem row7 : ((List.range 64).all fun j => Nat.ble 735 (448 + j) || rowFine Tryz.prog (448 + j)) = true := by kernel_rfl
end Go.Proofs.YtjjnhpoemcihgaaGreat.cmdIssues
