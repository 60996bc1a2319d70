/-
  The closed facts of the row of 'cmdIssues', joined.
-/
import Derived.Test.YtjjnhpoemcihgaaGreatFactsA
import Derived.Test.YtjjnhpoemcihgaaGreatFactsB
import Derived.Test.YtjjnhpoemcihgaaGreatFactsC
import Derived.Test.YtjjnhpoemcihgaaGreatFactsD
import Derived.Test.YtjjnhpoemcihgaaGreatFactsE
import Derived.Test.YtjjnhpoemcihgaaGreatFactsF
namespace Go.Proofs.YtjjnhpoemcihgaaGreat.cmdIssues
theorem tt {a b : Bool} (h : a = true) (k : b = true) : (a && b) = true := by rw [h, k]; rfl
theorem part {p : Nat → Bool} {n o : Nat} (h : ((List.range 64).all fun j => Nat.ble n (o + j) || p (o + j)) = true) : ∀ t, o ≤ t → t < o + 64 → t < n → p t = true := fun t h1 h2 h3 => by
  have := (List.all_eq_true.1 h) (t - o) (List.mem_range.2 (by omega))
  rw [show o + (t - o) = t by omega, Bool.or_eq_true, Nat.ble_eq] at this
  rcases this with h | h
  · omega
  · exact h
theorem rowsAll : (List.range Tryz.prog.types.size).all (rowFine Tryz.prog) = true := by
  rw [List.all_eq_true]
  intro t ht
  have ht : t < 735 := by have := List.mem_range.1 ht; rwa [size] at this
  by_cases h0 : t < 64
  · exact part row0 t (by omega) (by omega) ht
  by_cases h1 : t < 128
  · exact part row1 t (by omega) (by omega) ht
  by_cases h2 : t < 192
  · exact part row2 t (by omega) (by omega) ht
  by_cases h3 : t < 256
  · exact part row3 t (by omega) (by omega) ht
  by_cases h4 : t < 320
  · exact part row4 t (by omega) (by omega) ht
  by_cases h5 : t < 384
  · exact part row5 t (by omega) (by omega) ht
  by_cases h6 : t < 448
  · exact part row6 t (by omega) (by omega) ht
  by_cases h7 : t < 512
  · exact part row7 t (by omega) (by omega) ht
  by_cases h8 : t < 576
  · exact part row8 t (by omega) (by omega) ht
  by_cases h9 : t < 640
  · exact part row9 t (by omega) (by omega) ht
  by_cases h10 : t < 704
  · exact part row10 t (by omega) (by omega) ht
  exact part row11 t (by omega) (by omega) ht
theorem k1 : laidOutB Tryz.prog = true := by
  unfold laidOutB
  exact tt (tt rowsAll laidG) laidF
set_option maxRecDepth 100000 in
theorem closed : joinedFacts Tryz.pinned.checked.prog 4 Tryz.f4 Rows.cmdIssuesSpec Rows.cmdIssuesRow = true := (tt (tt (tt (tt (tt (tt (tt (tt (tt (tt (tt (tt (tt (tt (tt (tt (tt (tt (tt (tt (tt (tt (tt (tt (tt (tt (tt (tt (tt (tt (tt k0 k1) k2) k3) k4) k5) k6) k7) k8) k9) k10) k11) k12) k13) k14) k15) k16) k17) k18) k19) k20) k21) k22) k23) k24) k25) k26) k27) k28) k29) k30) k31)
end Go.Proofs.YtjjnhpoemcihgaaGreat.cmdIssues
