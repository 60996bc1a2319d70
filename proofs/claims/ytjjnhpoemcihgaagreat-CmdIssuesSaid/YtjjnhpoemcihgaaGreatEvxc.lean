/-
  Functions that are run by themselves.
-/
import Derived.Test.YtjjnhpoemcihgaaGreatEvx
namespace Go.Ev

section
variable {α : Type}
theorem forceN_eq (a : Nat) (k : Nat → α) : forceN a k = k a := by cases a <;> rfl
theorem forceI_eq (a : Int) (k : Int → α) : forceI a k = k a := by
  cases a with
  | ofNat n => exact forceN_eq n fun n => k (.ofNat n)
  | negSucc n => exact forceN_eq n fun n => k (.negSucc n)
theorem forceK_eq (a : IntKind) (k : IntKind → α) : forceK a k = k a := by cases a <;> rfl
theorem forceS_eq : ∀ (l : List Nat) (k : List Nat → α), forceS l k = k l
  | [], k => rfl
  | a :: l, k => by simp only [forceS, forceN_eq, forceS_eq l]
theorem forceC_eq (x : Cell) (k : Cell → α) : forceC x k = k x := by
  cases x with
  | i j n => show forceK j (fun j => forceI n fun n => k (.i j n)) = _; rw [forceK_eq, forceI_eq]
  | p b o => rfl
  | b b => cases b <;> rfl
  | s s => exact forceS_eq s fun s => k (.s s)
  | o x => rfl
theorem forceCs_eq : ∀ (l : List Cell) (k : List Cell → α), forceCs l k = k l
  | [], k => rfl
  | a :: l, k => by simp only [forceCs, forceC_eq, forceCs_eq l]
theorem forceV_eq (x : AV) (k : AV → α) : forceV x k = k x := by
  cases x with
  | c x => exact forceC_eq x fun x => k (.c x)
  | a l => exact forceCs_eq l fun l => k (.a l)
  | t l => rfl
theorem forceVs_eq : ∀ (l : List AV) (k : List AV → α), forceVs l k = k l
  | [], k => rfl
  | a :: l, k => by simp only [forceVs, forceV_eq, forceVs_eq l]
end

theorem noRefs_spec {x : AV} (h : noRefs x = true) : refsV x = [] := by
  unfold noRefs at h
  cases hx : refsV x with
  | nil => rfl
  | cons b l => rw [hx] at h; cases h

/-- What names no block holds wherever blocks lie. -/
theorem VR.free {φ ψ : Phi} (hρ : φ.ρ = ψ.ρ) (hs : φ.str = ψ.str) {x : AV} {v : Value} (h : refsV x = []) (hv : VR ψ x v) : VR φ x v :=
  renV_sound (ψ := ψ) (χ := φ) (renV_id x) ⟨(fun b b' hb => by rw [h] at hb; cases hb), (fun b g o hb => by rw [h] at hb; cases hb), hρ, hs, (fun b b' j v hb => by rw [h] at hb; cases hb)⟩ hv

theorem All2.free {φ ψ : Phi} (hρ : φ.ρ = ψ.ρ) (hs : φ.str = ψ.str) : ∀ {l : List AV} {us : List Value}, noRefsL l = true → All2 (VR ψ) l us → All2 (VR φ) l us
  | [], [], _, _ => trivial
  | x :: l, u :: us, h, ha => by
    obtain ⟨h1, h2⟩ := ifb_and h
    exact ⟨ha.1.free hρ hs (noRefs_spec h1), All2.free hρ hs h2 ha.2⟩

section
variable {φ : Phi} {base : Nat} {σ : St} {w u : World}

/-- Whoever only makes new blocks leaves all as it is. -/
theorem Stp.ofBelow (hm : MR base φ σ w) (h : Go.RowKit.Below w.heap.size w u) (hdr : w.drawn ≤ u.drawn) : Stp base φ σ w φ σ u := by
  have hb : ∀ g, g < w.heap.size → u.heap[g]? = w.heap[g]? := fun g hg => h.block g hg
  exact ⟨Phi.le_refl _, ⟨fun b => BR.world (hm.blk b) fun g o hp => hb g (hm.low b g o hp).2, hm.apart, hm.fresh, fun b g o hp => ⟨(hm.low b g o hp).1, Nat.lt_of_lt_of_le (hm.low b g o hp).2 h.size⟩, Nat.le_trans hm.bl h.size, hm.void, hm.vals⟩,
    h.size, fun g hg _ => hb g hg, fun b g o hl hp _ => ⟨b, o, hl, hp⟩, Nat.le_refl _, fun _ _ => rfl, fun _ _ _ _ => .inl rfl, Nat.le_refl _, fun _ _ _ => rfl, fun _ _ => rfl, h.os, h.tape, h.output, hdr⟩

theorem pureA_sound {P : Program} {pc : Call} (hpc : CallOk P pc) {f : FuncId} {args : List AV} {p : AV × St → Prop} (h : R.All p (pureA pc f args σ)) {us : Array Value} (hm : MR base φ σ w) (ha : All2 (VR φ) args us.toList) :
    (∃ fn c, P.funcs[f]? = some fn ∧ fn.body = some c ∧ (fn.name == "runtime.NumGoroutine") = false) ∧
    Calls P f us w fun e w' => ∃ u v τ ψ, e = .returned u ∧ p (v, τ) ∧ VR ψ v u ∧ Stp base φ σ w ψ τ w' := by
  unfold pureA at h
  rw [forceVs_eq] at h
  obtain ⟨hn, h1⟩ := R.All.ifb h
  have h2 := (R.All.bind h1).mono (q := fun r => noRefs r.1 = true ∧ p (r.1, σ)) fun r hr => R.All.ifb hr
  obtain ⟨hf, hc⟩ := hpc f args ⟨Hp.zero, 1, 0⟩ _ h2 w.heap.size ⟨fun _ => none, fun _ => 0, φ.ρ, φ.str, fun _ _ => none⟩ w us (MR.start w _ _) (All2.free (φ := ⟨fun _ => none, fun _ => 0, φ.ρ, φ.str, fun _ _ => none⟩) (ψ := φ) rfl rfl hn ha)
  refine ⟨hf, hc.mono fun e w' ⟨x, v, τ, ψ, h3, ⟨h4, h5⟩, h6, h7⟩ => ⟨x, v, σ, φ, h3, h5, VR.free (φ := φ) (ψ := ψ) h7.le.ρ.symm h7.le.str.symm (noRefs_spec h4) h6, Stp.ofBelow hm (h7.below (MR.start w _ _)) h7.drawn⟩⟩
end
end Go.Ev
