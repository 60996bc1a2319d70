/-
  Rows of types, laid out as the model asks: part C.
-/
import Derived.Test.YtjjnhpoemcihgaaGreatRows
import Derived.JoinedOf
namespace Go.Proofs.YtjjnhpoemcihgaaGreat.cmdIssues
theorem row8 : ((List.range 64).all fun j => Nat.ble 735 (512 + j) || rowFine Tryz.prog (512 + j)) = true := by kernel_rfl
theorem row9 : ((List.range 64).all fun j => Nat.ble 735 (576 + j) || rowFine Tryz.prog (576 + j)) = true := by kernel_rfl
theorem row10 : ((List.range 64).all fun j => Nat.ble 735 (640 + j) || rowFine Tryz.prog (640 + j)) = true := by kernel_rfl
theorem row11 : ((List.range 64).all fun j => Nat.ble 735 (704 + j) || rowFine Tryz.prog (704 + j)) = true := by kernel_rfl
end Go.Proofs.YtjjnhpoemcihgaaGreat.cmdIssues
