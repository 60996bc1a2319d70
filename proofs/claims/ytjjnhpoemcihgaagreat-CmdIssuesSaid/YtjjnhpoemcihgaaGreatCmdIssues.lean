/-
  Proved: 'Rows.CmdIssuesSaid': whatever the input, 'complinelaw28.CmdIssues' returns true and its arguments read as they did. No conditions.
-/
import Derived.Test.YtjjnhpoemcihgaaGreatRows
import Derived.Test.YtjjnhpoemcihgaaGreatRun0
import Derived.Test.YtjjnhpoemcihgaaGreatRun1
import Derived.Test.YtjjnhpoemcihgaaGreatRun2
import Derived.Test.YtjjnhpoemcihgaaGreatRun3
import Derived.Test.YtjjnhpoemcihgaaGreatRun4
import Derived.Test.YtjjnhpoemcihgaaGreatRun5
import Derived.Test.YtjjnhpoemcihgaaGreatRun6
import Derived.Test.YtjjnhpoemcihgaaGreatRun7
import Derived.Test.YtjjnhpoemcihgaaGreatFacts
import Derived.WalkKit
import Derived.ProofKit
import Derived.OpenShut
import Derived.Below
import Derived.ChangeSame
import Derived.ChangeMaps5
namespace Go.Proofs.YtjjnhpoemcihgaaGreat.cmdIssues
open Go.ChangeShapes Go.WideShapes Go.ChangeAt Go.RowKit Go.Ev
open Go.ChangeMaps (open_string shut_string)
set_option linter.unusedVariables false

theorem own : ownKnob Tryz.prog.godebug = none := by kernel_rfl
theorem both {a b : Bool} (h : (a && b) = true) : a = true ∧ b = true := by simpa using h

theorem knownAll {a b : List Nat} (ha : a ∈ accounts) (hb : b ∈ assets) : known a b = true := by
  simp only [accounts, assets, List.mem_cons, List.not_mem_nil, or_false] at ha hb
  rcases ha with rfl | rfl | rfl | rfl | rfl | rfl | rfl
  · rcases hb with rfl | rfl | rfl | rfl | rfl
    · exact (both run0_0).1
    · exact (both run0_0).2
    · exact (both run0_2).1
    · exact (both run0_2).2
    · exact (both run0_4).1
  · rcases hb with rfl | rfl | rfl | rfl | rfl
    · exact (both run0_4).2
    · exact (both run1_1).1
    · exact (both run1_1).2
    · exact (both run1_3).1
    · exact (both run1_3).2
  · rcases hb with rfl | rfl | rfl | rfl | rfl
    · exact (both run2_0).1
    · exact (both run2_0).2
    · exact (both run2_2).1
    · exact (both run2_2).2
    · exact (both run2_4).1
  · rcases hb with rfl | rfl | rfl | rfl | rfl
    · exact (both run2_4).2
    · exact (both run3_1).1
    · exact (both run3_1).2
    · exact (both run3_3).1
    · exact (both run3_3).2
  · rcases hb with rfl | rfl | rfl | rfl | rfl
    · exact (both run4_0).1
    · exact (both run4_0).2
    · exact (both run4_2).1
    · exact (both run4_2).2
    · exact (both run4_4).1
  · rcases hb with rfl | rfl | rfl | rfl | rfl
    · exact (both run4_4).2
    · exact (both run5_1).1
    · exact (both run5_1).2
    · exact (both run5_3).1
    · exact (both run5_3).2
  · rcases hb with rfl | rfl | rfl | rfl | rfl
    · exact (both run6_0).1
    · exact (both run6_0).2
    · exact (both run6_2).1
    · exact (both run6_2).2
    · exact run6_4
theorem noAssetAll {a : List Nat} (ha : a ∈ accounts) : noAsset a = true := by
  simp only [accounts, List.mem_cons, List.not_mem_nil, or_false] at ha
  rcases ha with rfl | rfl | rfl | rfl | rfl | rfl | rfl
  · exact runA0
  · exact runA1
  · exact runA2
  · exact runA3
  · exact runA4
  · exact runA5
  · exact runA6
theorem noAccountAll {b : List Nat} (hb : b ∈ assets) : noAccount b = true := by
  simp only [assets, List.mem_cons, List.not_mem_nil, or_false] at hb
  rcases hb with rfl | rfl | rfl | rfl | rfl
  · exact runS0
  · exact runS1
  · exact runS2
  · exact runS3
  · exact runS4

section
variable (n m : Int) (s t : ByteArray)
def rho : Nat → Int := fun v => match v with
  | 0 => n
  | 1 => m
  | 10 => s.size
  | 11 => t.size
  | _ => 0
def strs : Nat → ByteArray := fun i => match i with
  | 0 => s
  | _ => t
variable {n m : Int} {s t : ByteArray}
theorem rngHolds (hn : (Lit.int .i64 n).wf = true) (hm : (Lit.int .i64 m).wf = true) : ∀ f ∈ rng 0 ++ rng 1, f.holds (rho n m s t) (strs s t) := by
  have hmin : IntKind.i64.min = -9223372036854775808 := rfl
  have hmax : IntKind.i64.max = 9223372036854775807 := rfl
  simp only [Lit.wf, Bool.and_eq_true, decide_eq_true_eq, hmin, hmax] at hn hm
  intro f hf
  simp only [rng, List.cons_append, List.nil_append, List.mem_cons, List.not_mem_nil, or_false] at hf
  rcases hf with rfl | rfl | rfl | rfl
  · show (-9223372036854775807 : Int) + (1 * n + 0) ≤ 0; omega
  · show (-9223372036854775808 : Int) + (-1 * n + 0) ≤ 0; omega
  · show (-9223372036854775807 : Int) + (1 * m + 0) ≤ 0; omega
  · show (-9223372036854775808 : Int) + (-1 * m + 0) ≤ 0; omega
theorem otherHolds {i v : Nat} {l : List (List Nat)} {r : Nat → Int} {q : Nat → ByteArray} (h1 : r v = ((q i).size : Int)) (h2 : nats (q i) ∉ l) : ∀ f ∈ other i v l, f.holds r q := by
  intro f hf
  unfold other at hf
  rcases List.mem_cons.1 hf with rfl | hf
  · exact h1
  · obtain ⟨x, hx, rfl⟩ := List.mem_map.1 hf
    exact fun e => h2 (by rw [e]; exact hx)
theorem more {F G : List Fact} {r : Nat → Int} {q : Nat → ByteArray} (hF : ∀ f ∈ F, f.holds r q) (hG : ∀ f ∈ G, f.holds r q) : ∀ f ∈ F ++ G, f.holds r q := fun f hf => by
  rcases List.mem_append.1 hf with h | h
  · exact hF f h
  · exact hG f h

theorem numHolds (φ : Phi) (v : Nat) {k : Int} (h : φ.ρ v = k) : VR φ (num v) (.int .i64 k) := by
  show Value.int .i64 k = .int .i64 (0 + (1 * φ.ρ v + 0))
  rw [h]
  congr 1
  omega

theorem walk (hn : (Lit.int .i64 n).wf = true) (hm : (Lit.int .i64 m).wf = true) (w : World) :
    Calls Tryz.prog 4 #[.int .i64 n, .int .i64 m, .string s, .string t] w fun e w' => e = .returned (.bool true) ∧ Below w.heap.size w w' := by
  have hr := rngHolds (s := s) (t := t) hn hm
  have h0 := numHolds ⟨fun _ => none, fun _ => 0, rho n m s t, strs s t, fun _ _ => none⟩ 0 (k := n) rfl
  have h1 := numHolds ⟨fun _ => none, fun _ => 0, rho n m s t, strs s t, fun _ _ => none⟩ 1 (k := m) rfl
  have args : ∀ {x y : AV}, VR ⟨fun _ => none, fun _ => 0, rho n m s t, strs s t, fun _ _ => none⟩ x (.string s) → VR ⟨fun _ => none, fun _ => 0, rho n m s t, strs s t, fun _ _ => none⟩ y (.string t) →
      All2 (VR ⟨fun _ => none, fun _ => 0, rho n m s t, strs s t, fun _ _ => none⟩) [num 0, num 1, x, y] (#[.int .i64 n, .int .i64 m, .string s, .string t] : Array Value).toList := fun hx hy => ⟨h0, h1, hx, hy, trivial⟩
  by_cases hs : nats s ∈ accounts
  · by_cases ht : nats t ∈ assets
    · exact closedRun (knownAll hs ht) (rho n m s t) (strs s t) hr (args ⟨s, rfl, rfl⟩ ⟨t, rfl, rfl⟩) w
    · exact closedRun (noAssetAll hs) (rho n m s t) (strs s t) (fun f hf => by rw [← List.append_assoc] at hf; exact more hr (otherHolds rfl ht) f hf) (args ⟨s, rfl, rfl⟩ rfl) w
  · by_cases ht : nats t ∈ assets
    · exact closedRun (noAccountAll ht) (rho n m s t) (strs s t) (fun f hf => by rw [← List.append_assoc] at hf; exact more hr (otherHolds rfl hs) f hf) (args rfl ⟨t, rfl, rfl⟩) w
    · exact closedRun runN (rho n m s t) (strs s t) (fun f hf => by rw [← List.append_assoc] at hf; exact more hr (more (otherHolds rfl hs) (otherHolds rfl ht)) f hf) (args rfl rfl) w
end

section
variable {H : Type} {enc : TypeId × Value → H} {P : Program}
theorem post_of_below {f : Func} {s : ChangeSpec} {apart fresh handsOn again : Bool} {W W' : World} {args : Array Value} {v : Value} {ds gs : List (DataW H)} {before pa pv : List MemPlace}
    (hW : DataW.Whole enc P f.params.toList s.vars apart W args.toList ds gs before)
    (hres : ∀ (b : Nat) (sp : Nat → Bool) (hd : Bool), DataW.TrodAll enc P W' b sp hd f.resultTypes.toList (v.resultList f.resultTypes.size) (s.fn H (ds ++ gs)).results [])
    (hargs : ∀ sp : Nat → Bool, (∀ p ∈ before, sp p.block = true) → DataW.TrodAll enc P W' 0 sp true f.params.toList args.toList (s.fn H (ds ++ gs)).args pa)
    (hvars : ∀ sp : Nat → Bool, (∀ p ∈ before, sp p.block = true) → DataW.TrodVars enc P W' sp s.vars (s.fn H (ds ++ gs)).vars pv)
    (hps : before = pa ++ pv) (hb : Below W.heap.size W W')
    (hok : ∀ (j : Nat) (t : TypeId) (r : Value), f.resultTypes[j]? = some t → (v.resultList f.resultTypes.size)[j]? = some r → Value.okWide P W' .any 0 t r) :
    s.post enc P f apart fresh handsOn again W args v W' := by
  have hlt : ∀ p ∈ before, p.block < W.heap.size := fun p hp => hW.lt p hp
  have hold : ∀ p ∈ before, (fun b => decide (b < W.heap.size)) p.block = true := fun p hp => by simpa using hlt p hp
  refine ⟨ds, gs, before, [], pa, pv, hW, hres _ _ _, hargs _ hold, hvars _ hold, World.keptBut_mono (fun p hp => ⟨hp, ?_⟩) (hb.frame (· ∈ before)), fun _ => ?_⟩
  · rw [hps, List.mem_append] at hp
    exact Or.inr hp
  · obtain ⟨_, _, _, _, _, hz, hn⟩ := hW
    refine ⟨hok, _, _, ([] ++ pa) ++ pv, ⟨[] ++ pa, pv, trodAll_append (hargs _ (fun _ _ => rfl)) (hres _ _ _), hvars _ (fun _ _ => rfl), rfl, ?_, ?_⟩, ?_⟩
    · intro b off hp
      have hin : MemPlace.cell b off ∈ before := by rw [hps]; simpa using hp
      rw [hb.frozen (hlt _ hin)]
      exact hz b off hin
    · intro ha
      have := hn ha
      rw [hps] at this
      simpa using this
    · intro p hp _
      rw [hps]
      simpa using hp
end


set_option maxRecDepth 100000 in
theorem lifted (os : Os) (started : os.Started) (H : Type) (enc : TypeId × Value → H) :
    ReturnsInHanded {} Tryz.checked os 4 .any (Rows.cmdIssuesSpec.pre6 enc Tryz.prog Tryz.f4 Rows.cmdIssuesRow.domain false) (Rows.cmdIssuesSpec.post enc Tryz.prog Tryz.f4 false true false false) := by
  refine returnsInHanded_of_change (C := Tryz.checked) own started (by kernel_rfl) Tryz.func4
    (ChangeSpec.witness6 (enc := enc) (C := Tryz.checked) false ⟨#[], #[.int .i64 0, .int .i64 0, .string ⟨#[]⟩, .string ⟨#[]⟩], []⟩ 8 (by kernel_rfl) (by kernel_rfl) (by kernel_rfl) (by kernel_rfl)) ?_
  intro W base args ds gs before hval0 hW hcnd _
  have hval : ∀ (j : Nat) t v, Tryz.f4.params[j]? = some t → args[j]? = some v → Value.okWide Tryz.prog W .any base t v := hval0
  have hW' := hW
  obtain ⟨p, q, hA0, hV, rfl, hfz, hnd⟩ := hW
  have hA : DataW.TrodAll enc Tryz.prog W 0 (fun _ => true) true Tryz.f4.params.toList args.toList ds p := hA0
  rw [Tryz.params4] at hA hval
  obtain ⟨v0, vs0, d0, ds0, p0, q0, hargs, rfl, rfl, h0, r0⟩ := trodAll_cons hA
  obtain ⟨v1, vs1, d1, ds1, p1, q1, rfl, rfl, rfl, h1, r1⟩ := trodAll_cons r0
  obtain ⟨v2, vs2, d2, ds2, p2, q2, rfl, rfl, rfl, h2, r2⟩ := trodAll_cons r1
  obtain ⟨v3, vs3, d3, ds3, p3, q3, rfl, rfl, rfl, h3, r3⟩ := trodAll_cons r2
  obtain ⟨rfl, rfl, rfl⟩ := trodAll_nil r3
  obtain rfl : args = #[v0, v1, v2, v3] := by cases args; simp_all
  obtain ⟨rfl, rfl⟩ := trodVars_none hV
  obtain ⟨a0, rfl, rfl, rfl, w0⟩ := open_int Tryz.underlying3 (hval 0 3 v0 rfl rfl) h0
  obtain ⟨a1, rfl, rfl, rfl, w1⟩ := open_int Tryz.underlying3 (hval 1 3 v1 rfl rfl) h1
  obtain ⟨a2, rfl, rfl, rfl, w2⟩ := open_string Tryz.underlying9 (hval 2 9 v2 rfl rfl) h2
  obtain ⟨a3, rfl, rfl, rfl, w3⟩ := open_string Tryz.underlying9 (hval 3 9 v3 rfl rfl) h3
  clear hA0 hval0
  simp only [List.append_nil] at hW'
  refine (walk w0 w1 W).mono fun e W' ⟨he, hb⟩ => ?_
  subst he
  exact ⟨_, rfl, post_of_below (pa := []) (pv := []) hW' (fun _ _ _ => (trodAll_cons_mk (shut_bool Tryz.underlying4 _) trodAll_mk0))
    (fun sp _ => (trodAll_cons_mk (shut_int Tryz.underlying3 w0) (trodAll_cons_mk (shut_int Tryz.underlying3 w1) (trodAll_cons_mk (shut_string Tryz.underlying9 w2) (trodAll_cons_mk (shut_string Tryz.underlying9 w3) trodAll_mk0))))) (fun _ _ => rfl) rfl
    hb (ok_one (by kernel_rfl) rfl (okWide_bool_mk Tryz.underlying4 _))⟩

theorem over : Rows.cmdIssuesRow.holds Tryz.pinned (OpenSpec.ofChange Rows.cmdIssuesSpec) :=
  OpenClaim.holds_of_wide 4 Tryz.f4 rfl rfl rfl rfl rfl rfl rfl ⟨rfl, rfl, rfl, rfl, rfl⟩ rfl rfl rfl rfl rfl named Tryz.func4 closed
    inst (by unfold Func.isWrapper; first | (rw [if_pos (by decide +kernel)]; kernel_rfl) | (rw [if_neg (by decide +kernel)]; exact ⟨rfl, rfl⟩))
    (fun os started H enc _ => lifted os started H enc)

/-- The statement. -/
theorem proved : Rows.CmdIssuesSaid :=
  over
#print axioms proved
end Go.Proofs.YtjjnhpoemcihgaaGreat.cmdIssues
