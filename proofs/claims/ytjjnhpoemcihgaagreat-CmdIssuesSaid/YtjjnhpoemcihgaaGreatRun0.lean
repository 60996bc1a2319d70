/-
  Runs of 'complinelaw28.CmdIssues': what is known ahead of them; what they tell.
-/
import Derived.Test.YtjjnhpoemcihgaaGreatTab
namespace Go.Proofs.YtjjnhpoemcihgaaGreat
open Go.Ev Go.RowKit
def isTrue (v : AV) : Bool := v.onB (fun b => b) false
def allR (r : R (AV × St)) : Bool := R.casesOn r (fun _ => false) (fun a => isTrue a.1) (fun l => l.all fun a => isTrue a.1)
theorem allR_spec {r : R (AV × St)} (h : allR r = true) : R.All (fun r => isTrue r.1 = true) r := by
  cases r with
  | err s => cases h
  | one a => exact h
  | many l => intro a ha; exact List.all_eq_true.1 h a ha
theorem closedRun {k : Nat} {f : FuncId} {args : List AV} {us : Array Value} {F : List Fact} (h : allR (callN Tryz.prog Γ k f args (St.start F)) = true) (ρ : Nat → Int) (str : Nat → ByteArray) (hF : ∀ f ∈ F, f.holds ρ str)
    (ha : All2 (VR ⟨fun _ => none, fun _ => 0, ρ, str, fun _ _ => none⟩) args us.toList) (w : World) :
    Calls Tryz.prog f us w fun e w' => e = .returned (.bool true) ∧ Below w.heap.size w w' :=
  (run_closed tabOk mixed hS hN (p := isTrue) (allR_spec h) ρ str hF ha w).mono fun e w' ⟨u, v, φ, h1, h2, h3, h4⟩ => by
    subst h1
    cases v with
    | a l => cases h2
    | t l => cases h2
    | c x =>
      cases x with
      | b b =>
        have h2 : b = true := h2
        subst h2
        have h3 : u = .bool true := h3
        exact ⟨by rw [h3], h4⟩
      | _ => cases h2
/-- A whole number of 64 bits. -/
def rng (v : Nat) : List Fact := [.le (-9223372036854775807) [(v, 1)], .le (-9223372036854775808) [(v, -1)]]
def accounts : List (List Nat) := [[66, 65, 78, 75], [80, 65], [80, 66], [81, 65], [81, 66], [82, 65], [82, 66]]
def assets : List (List Nat) := [[88], [89], [90], [69, 85, 82], [85, 83, 68]]
def other (i v : Nat) (l : List (List Nat)) : List Fact := .len v i :: l.map fun s => .sne i s
def num (v : Nat) : AV := .oth (.sy .i64 0 [(v, 1)])
/-- The run at an account and an asset that there are. -/
noncomputable def known (s t : List Nat) : Bool := allR (callN Tryz.prog Γ 60 4 [num 0, num 1, .str s, .str t] (St.start (rng 0 ++ rng 1)))
/-- .. at an asset that there is not; an account that there is not; both. -/
noncomputable def noAsset (s : List Nat) : Bool := allR (callN Tryz.prog Γ 60 4 [num 0, num 1, .str s, .oth (.ss 1)] (St.start (rng 0 ++ (rng 1 ++ other 1 11 assets))))
noncomputable def noAccount (t : List Nat) : Bool := allR (callN Tryz.prog Γ 60 4 [num 0, num 1, .oth (.ss 0), .str t] (St.start (rng 0 ++ (rng 1 ++ other 0 10 accounts))))
noncomputable def neither : Bool := allR (callN Tryz.prog Γ 60 4 [num 0, num 1, .oth (.ss 0), .oth (.ss 1)] (St.start (rng 0 ++ (rng 1 ++ (other 0 10 accounts ++ other 1 11 assets)))))
end Go.Proofs.YtjjnhpoemcihgaaGreat
