/-
  The closed facts of the row of 'cmdIssues', each by itself; but for the layout of types: part E.
-/
import Derived.Test.YtjjnhpoemcihgaaGreatRows
import Derived.JoinedOf
namespace Go.Proofs.YtjjnhpoemcihgaaGreat.cmdIssues
theorem k10 : ((Rows.cmdIssuesRow.unfollowed == Tryz.prog.unfollowed 4)) = true := by kernel_rfl
theorem k11 : ((Rows.cmdIssuesRow.recurses == Tryz.prog.recurses 4)) = true := by kernel_rfl
end Go.Proofs.YtjjnhpoemcihgaaGreat.cmdIssues
