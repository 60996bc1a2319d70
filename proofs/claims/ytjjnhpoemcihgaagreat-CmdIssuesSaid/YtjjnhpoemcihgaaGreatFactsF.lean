/-
  The closed facts of the row of 'cmdIssues', each by itself; but for the layout of types: part F.
-/
import Derived.Test.YtjjnhpoemcihgaaGreatRows
import Derived.JoinedOf
namespace Go.Proofs.YtjjnhpoemcihgaaGreat.cmdIssues
theorem k12 : ((Rows.cmdIssuesRow.named == Tryz.prog.varsNamed 4)) = true := by kernel_rfl
theorem k13 : ((Rows.cmdIssuesRow.maps == (Tryz.f4.params.toList ++ Rows.cmdIssuesSpec.plain.varTypes Tryz.prog).any (Tryz.prog.mapsRec ·))) = true := by kernel_rfl
theorem k14 : ((Rows.cmdIssuesRow.ifaces == (Tryz.f4.params.toList ++ Rows.cmdIssuesSpec.plain.varTypes Tryz.prog).any (Tryz.prog.ifacesRec ·))) = true := by kernel_rfl
theorem k15 : ((Rows.cmdIssuesRow.mapsOut == Tryz.prog.mapsAmong Tryz.f4.resultTypes.toList)) = true := by kernel_rfl
theorem k16 : ((Rows.cmdIssuesRow.loops == (Tryz.f4.params.toList ++ Rows.cmdIssuesSpec.plain.varTypes Tryz.prog).any (Tryz.prog.loopsFrom ·))) = true := by kernel_rfl
theorem k17 : ((Rows.cmdIssuesRow.wideKeys == (Tryz.f4.params.toList ++ Rows.cmdIssuesSpec.plain.varTypes Tryz.prog ++ Tryz.f4.resultTypes.toList).any (Tryz.prog.wideKeysFrom ·))) = true := by kernel_rfl
theorem k18 : (Rows.cmdIssuesSpec.vars.all (Tryz.prog.varReadable ·)) = true := by kernel_rfl
theorem k19 : (Tryz.f4.resultTypes.all (fun t => Tryz.prog.readableRec t && decide (t < Tryz.prog.types.size))) = true := by kernel_rfl
theorem k20 : ((Rows.cmdIssuesRow.ifacesOut == Tryz.f4.resultTypes.toList.any (Tryz.prog.ifacesRec ·))) = true := by kernel_rfl
theorem k21 : ((Rows.cmdIssuesRow.loopsOut == Tryz.f4.resultTypes.toList.any (Tryz.prog.loopsFrom ·))) = true := by kernel_rfl
theorem k22 : ((Rows.cmdIssuesRow.plainKeys == Tryz.prog.plainKeys)) = true := by kernel_rfl
theorem k23 : (Rows.cmdIssuesRow.shortTexts.isNone) = true := by kernel_rfl
theorem k24 : (Tryz.prog.stopsHeard) = true := by kernel_rfl
theorem k25 : (Tryz.prog.mayEnter) = true := by kernel_rfl
theorem k26 : ((Rows.cmdIssuesRow.lifted == Tryz.prog.liftsFinal)) = true := by kernel_rfl
theorem k27 : ((Tryz.prog.make == some Rows.cmdIssuesRow.make)) = true := by kernel_rfl
theorem k28 : ((Rows.cmdIssuesRow.kinds == (if Rows.cmdIssuesRow.domain.isEmpty then [] else Tryz.f4.params.toList.map fun t => match Tryz.prog.underlying t with | some (.int k) => some k | _ => none))) = true := by kernel_rfl
theorem k29 : ((Rows.cmdIssuesRow.pinned == Rows.cmdIssuesRow.pinnedBy)) = true := by kernel_rfl
theorem k30 : ((Rows.cmdIssuesRow.veiled == (Tryz.f4.params.toList ++ Rows.cmdIssuesSpec.plain.varTypes Tryz.prog ++ Tryz.f4.resultTypes.toList).any (Tryz.prog.veiledRec ·))) = true := by kernel_rfl
theorem k31 : (Rows.cmdIssuesRow.veiledFits Tryz.prog Tryz.f4.params.toList (Tryz.f4.params.toList ++ Rows.cmdIssuesSpec.plain.varTypes Tryz.prog ++ Tryz.f4.resultTypes.toList)) = true := by kernel_rfl
theorem size : Tryz.prog.types.size = 735 := by kernel_rfl
theorem laidG : (Tryz.prog.globals.all (fun g => decide (g.type < Tryz.prog.types.size))) = true := by
  rw [← Array.all_toList]
  kernel_rfl
theorem laidF : (Tryz.prog.funcs.all (fun f => f.params.all fun t => decide (t < Tryz.prog.types.size))) = true := by
  rw [← Array.all_toList]
  kernel_rfl
theorem named : Tryz.pinned.checked.prog.funcNamed Rows.cmdIssuesRow.func = some 4 := by kernel_rfl
theorem inst : Tryz.f4.isInstance Tryz.pinned.checked.prog Rows.cmdIssuesRow.origin Rows.cmdIssuesRow.targs := of_decide_eq_true (by kernel_rfl)
end Go.Proofs.YtjjnhpoemcihgaaGreat.cmdIssues
