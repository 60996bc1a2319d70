/-
  The closed facts of the row of 'cmdIssues', each by itself; but for the layout of types: part D.
-/
import Derived.Test.YtjjnhpoemcihgaaGreatRows
import Derived.JoinedOf
namespace Go.Proofs.YtjjnhpoemcihgaaGreat.cmdIssues
theorem k0 : (Rows.cmdIssuesRow.wf (OpenSpec.ofChange Rows.cmdIssuesSpec)) = true := by kernel_rfl
theorem k2 : (mapsRowed Tryz.prog) = true := by kernel_rfl
theorem k3 : (Tryz.f4.params.all (Tryz.prog.readableRec ·)) = true := by kernel_rfl
theorem k4 : (namedTie Tryz.prog Rows.cmdIssuesRow.named Rows.cmdIssuesSpec.vars) = true := by kernel_rfl
theorem k5 : ((Rows.cmdIssuesRow.stops == [])) = true := by kernel_rfl
theorem k6 : ((Tryz.prog.stops == [])) = true := by kernel_rfl
theorem k7 : ((Rows.cmdIssuesRow.knobs == [])) = true := by kernel_rfl
theorem k8 : ((Tryz.prog.stopKnobs == [])) = true := by kernel_rfl
theorem k9 : ((Rows.cmdIssuesRow.inPlace == Tryz.prog.inPlace 4)) = true := by kernel_rfl
end Go.Proofs.YtjjnhpoemcihgaaGreat.cmdIssues
