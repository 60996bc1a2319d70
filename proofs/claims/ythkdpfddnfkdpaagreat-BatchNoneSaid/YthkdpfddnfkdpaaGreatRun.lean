/-
  The closed run of 'complinelaw26.BatchNone', whatever its argument: true; worked out by the kernel.
-/
import Derived.Test.YthkdpfddnfkdpaaGreatTab
namespace Go.Proofs.YthkdpfddnfkdpaaGreat
open Go.Ev
def isTrue (v : AV) : Bool := v.onB (fun b => b) false
def allR (r : R (AV × St)) : Bool := R.casesOn r (fun _ => false) (fun a => isTrue a.1) (fun l => l.all fun a => isTrue a.1)
theorem allR_spec {r : R (AV × St)} (h : allR r = true) : R.All (fun r => isTrue r.1 = true) r := by
  cases r with
  | err s => cases h
  | one a => exact h
  | many l => intro a ha; exact List.all_eq_true.1 h a ha
set_option maxRecDepth 1000000 in
theorem run : allR (callN Tryz.prog Γ 60 3 [.any] ⟨Hp.zero, 1, 0⟩) = true := by kernel_rfl
end Go.Proofs.YthkdpfddnfkdpaaGreat
