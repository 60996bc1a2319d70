/-
  Where a truth is unknown: both ways, with a fact more.
-/
import Derived.Test.YtjjnhpoemcihgaaGreatEvr
namespace Go.Ev

section
variable {P : Program} {φ : Phi} {base : Nat} {σ : St} {w : World}

theorem strip_mem {c : Int} {l : List (Nat × Int)} {f : Fact} : ∀ {F : List Fact}, f ∈ strip c l F → f ∈ F
  | [], h => by cases h
  | g :: F, h => by
    unfold strip at h
    cases hw : weaker c l g with
    | true => rw [hw] at h; exact List.mem_cons_of_mem _ (strip_mem h)
    | false =>
      rw [hw] at h
      rcases List.mem_cons.1 h with rfl | h
      · simp
      · exact List.mem_cons_of_mem _ (strip_mem h)
theorem layF_mem {f : Fact} : ∀ {G F : List Fact}, f ∈ layF G F → f ∈ G ∨ f ∈ F
  | [], F, h => .inr h
  | g :: G, F, h => by
    have other : f ∈ g :: layF G F → f ∈ g :: G ∨ f ∈ F := fun h => by
      rcases List.mem_cons.1 h with rfl | h
      · exact .inl (by simp)
      · rcases layF_mem h with h | h
        · exact .inl (List.mem_cons_of_mem _ h)
        · exact .inr h
    cases g with
    | le c l =>
      have h : f ∈ Fact.le c l :: layF G (strip c l F) := h
      rcases List.mem_cons.1 h with rfl | h
      · exact .inl (by simp)
      · rcases layF_mem h with h | h
        · exact .inl (List.mem_cons_of_mem _ h)
        · exact .inr (strip_mem h)
    | quo i c l k => exact other h
    | mul i c l d m => exact other h
    | sne i s => exact other h
    | len v i => exact other h

theorem addF_sound {α : Type} {p : α → Prop} {l : List Fact} {k : St → R α} (h : R.All p (addF σ l k)) (hm : MR base φ σ w) (hl : ∀ f ∈ l, f.holds φ.ρ φ.str) : ∃ τ, R.All p (k τ) ∧ Stp base φ σ w φ τ w := by
  unfold addF at h
  cases hb : hget σ 0 with
  | facts F =>
    rw [hb] at h
    obtain ⟨hp, n, d⟩ := σ
    have h : R.All p (k ⟨hput hp 0 (.facts (layF l F)), n, d⟩) := h
    refine ⟨_, h, ?_⟩
    have hget' : ∀ b, hget ⟨hput hp 0 (.facts (layF l F)), n, d⟩ b = if b = 0 then .facts (layF l F) else hget ⟨hp, n, d⟩ b := by
      intro b
      rw [hget_mk, hget_mk]
      by_cases e : b = 0
      · subst e; rw [if_pos rfl]; exact getH_hput_same (by omega) _ _
      · rw [if_neg e]; exact getH_hput_ne e _ _
    have h0 := hm.blk 0
    rw [hb] at h0
    have hne : ∀ b g o, φ b = some (g, o) → b ≠ 0 := fun b g o h e => by subst e; rw [h0.1] at h; cases h
    have hn : ¬ n ≤ 0 + 1 := fun hle => by have := hm.void 0 hle; rw [hb] at this; cases this
    refine ⟨Phi.le_refl _, ⟨fun b => ?_, fun b c g o o' hne' hl hl' hp hp' => ?_, hm.fresh, hm.low, hm.bl, fun b hb' => ?_, hm.vals⟩, Nat.le_refl _, fun _ _ _ => rfl, fun b g o hl hp _ => ⟨b, o, ?_, hp⟩, Nat.le_refl _, fun _ _ => rfl, fun b hb1 hb2 hb3 => ?_, Nat.le_refl _, fun b hb1 hb2 => ?_, fun _ _ => rfl, rfl, rfl, rfl, Nat.le_refl _⟩
    · rw [hget']
      by_cases e : b = 0
      · subst e
        rw [if_pos rfl]
        refine ⟨h0.1, fun f hf => ?_⟩
        rcases layF_mem hf with hf | hf
        · exact hl f hf
        · exact h0.2 f hf
      · rw [if_neg e]; exact hm.blk b
    · have e1 := hne b g o hp
      have e2 := hne c g o' hp'
      unfold live at hl hl'
      rw [hget', if_neg e1] at hl
      rw [hget', if_neg e2] at hl'
      rw [hget', hget', if_neg e1, if_neg e2]
      exact hm.apart b c g o o' hne' hl hl' hp hp'
    · rw [hget', if_neg (by intro e; subst e; exact hn hb')]; exact hm.void b hb'
    · have e1 := hne b g o hp
      unfold live at hl
      rw [hget', if_neg e1] at hl
      exact hl
    · rw [hget', if_neg (by intro e; subst e; exact hb3 F hb)]; exact .inl rfl
    · rw [hget', if_neg (by intro e; subst e; exact hb2.2 F hb)]
  | _ => rw [hb] at h; exact h.elim

/-- What is known of a value tells this truth. -/
def Told (ρ : Nat → Int) (v : AV) (b : Bool) : Prop := v = .bool b ∨ ∃ m c l, v = .oth (.sb m c l) ∧ sbVal ρ m c l = b
theorem Told.VR {v : AV} {b : Bool} (h : Told φ.ρ v b) {u : Value} (hv : VR φ v u) : u = .bool b := by
  rcases h with rfl | ⟨m, c, l, rfl, rfl⟩
  · exact hv
  · exact hv
theorem Told.VR' {v : AV} {b : Bool} (h : Told φ.ρ v b) : Go.Ev.VR φ v (.bool b) := by
  rcases h with rfl | ⟨m, c, l, rfl, rfl⟩
  · exact rfl
  · exact rfl
/-- What is known of one value is no less than what is known of another one. -/
def Finer (ρ : Nat → Int) (v x : AV) : Prop := v = x ∨ ∃ b, v = .bool b ∧ Told ρ x b
theorem Finer.VR {v x : AV} (h : Finer φ.ρ v x) {u : Value} (hv : VR φ v u) : Go.Ev.VR φ x u := by
  rcases h with rfl | ⟨b, rfl, h⟩
  · exact hv
  · have hv : u = .bool b := hv
    rw [hv]; exact h.VR'

theorem forkNe_sound {α : Type} {p : α → Prop} {c : Int} {l : List (Nat × Int)} {k : St → R α} (h : R.All p (forkNe σ c l k)) (hm : MR base φ σ w) (hc : ¬ c + evalL φ.ρ l = 0) : ∃ τ, R.All p (k τ) ∧ Stp base φ σ w φ τ w := by
  have fact : ∀ {e : Int} {n : List (Nat × Int)}, e + evalL φ.ρ n ≤ 0 → ∀ f ∈ [Fact.le e n], f.holds φ.ρ φ.str := by
    intro e n h f hf
    simp only [List.mem_singleton] at hf
    subst hf
    exact h
  have up : Int.sub 1 c + evalL φ.ρ (negL l) = 1 - c - evalL φ.ρ l := by rw [evalL_neg]; show (1 - c) + _ = _; omega
  have ng : Int.neg c + evalL φ.ρ (negL l) = - c - evalL φ.ρ l := by rw [evalL_neg]; show - c + _ = _; omega
  have dn : Int.add c 1 + evalL φ.ρ l = c + evalL φ.ρ l + 1 := by show (c + 1) + _ = _; omega
  unfold forkNe at h
  cases h1 : provesLe (factsOf σ) (Int.neg c) (negL l) with
  | true =>
    rw [h1] at h
    have h2 := provesLe_sound hm.factsHold h1
    rw [ng] at h2
    exact addF_sound h hm (fact (by rw [up]; omega))
  | false =>
    rw [h1] at h
    have h : R.All p (ifb (provesLe (factsOf σ) c l) (addF σ [.le (Int.add c 1) l] k) (R.app (addF σ [.le (Int.add c 1) l] k) (addF σ [.le (Int.sub 1 c) (negL l)] k))) := h
    cases h3 : provesLe (factsOf σ) c l with
    | true =>
      rw [h3] at h
      have h2 := provesLe_sound hm.factsHold h3
      exact addF_sound h hm (fact (by rw [dn]; omega))
    | false =>
      rw [h3] at h
      obtain ⟨h4, h5⟩ := R.All.app h
      by_cases hlt : c + evalL φ.ρ l ≤ 0
      · exact addF_sound h4 hm (fact (by rw [dn]; omega))
      · exact addF_sound h5 hm (fact (by rw [up]; omega))

theorem forkB_told {α : Type} {p : α → Prop} {v : AV} {s : String} {k : Bool → St → R α} (h : R.All p (forkB σ v s k)) (hm : MR base φ σ w) :
    ∃ b τ, Told φ.ρ v b ∧ R.All p (k b τ) ∧ Stp base φ σ w φ τ w := by
  obtain ⟨x, rfl, h1⟩ := R.All.onO h
  clear h
  have h := h1
  clear h1
  revert h
  cases x <;> try (intro h; exact h.elim)
  rename_i m c l
  intro h
  suffices hh : ∃ b τ, sbVal φ.ρ m c l = b ∧ R.All p (k b τ) ∧ Stp base φ σ w φ τ w by
    obtain ⟨b, τ, h1, h2, h3⟩ := hh
    exact ⟨b, τ, .inr ⟨m, c, l, rfl, h1⟩, h2, h3⟩
  have fact : ∀ {e : Int} {n : List (Nat × Int)}, e + evalL φ.ρ n ≤ 0 → ∀ f ∈ [Fact.le e n], f.holds φ.ρ φ.str := by
    intro e n h f hf
    simp only [List.mem_singleton] at hf
    subst hf
    exact h
  have fact2 : ∀ {e e' : Int} {n n' : List (Nat × Int)}, e + evalL φ.ρ n ≤ 0 → e' + evalL φ.ρ n' ≤ 0 → ∀ f ∈ [Fact.le e n, Fact.le e' n'], f.holds φ.ρ φ.str := by
    intro e e' n n' h h' f hf
    simp only [List.mem_cons, List.not_mem_nil, or_false] at hf
    rcases hf with rfl | rfl
    · exact h
    · exact h'
  have up : Int.sub 1 c + evalL φ.ρ (negL l) = 1 - c - evalL φ.ρ l := by rw [evalL_neg]; show (1 - c) + _ = _; omega
  have ng : Int.neg c + evalL φ.ρ (negL l) = - c - evalL φ.ρ l := by rw [evalL_neg]; show - c + _ = _; omega
  have dn : Int.add c 1 + evalL φ.ρ l = c + evalL φ.ρ l + 1 := by show (c + 1) + _ = _; omega
  match m with
  | 0 =>
    have h : R.All p (onSome (decLe (factsOf σ) c l) (fun b => k b σ) (R.app (addF σ [.le c l] (k true)) (addF σ [.le (Int.sub 1 c) (negL l)] (k false)))) := h
    cases hd : decLe (factsOf σ) c l with
    | some b =>
      rw [hd] at h
      refine ⟨b, σ, ?_, h, Stp.refl hm⟩
      rw [decLe_sound hm.factsHold hd]; rfl
    | none =>
      rw [hd] at h
      obtain ⟨h1, h2⟩ := R.All.app h
      by_cases hc : c + evalL φ.ρ l ≤ 0
      · obtain ⟨τ, h3, h4⟩ := addF_sound h1 hm (fact hc)
        exact ⟨true, τ, by simp [sbVal, hc], h3, h4⟩
      · obtain ⟨τ, h3, h4⟩ := addF_sound h2 hm (fact (by rw [up]; omega))
        exact ⟨false, τ, by simp [sbVal, hc], h3, h4⟩
  | 1 =>
    have h : R.All p (onSome (decEq (factsOf σ) c l) (fun b => k b σ) (R.app (addF σ [.le c l, .le (Int.neg c) (negL l)] (k true)) (forkNe σ c l (k false)))) := h
    cases hd : decEq (factsOf σ) c l with
    | some b =>
      rw [hd] at h
      refine ⟨b, σ, ?_, h, Stp.refl hm⟩
      rw [decEq_sound hm.factsHold hd]; rfl
    | none =>
      rw [hd] at h
      obtain ⟨h1, h2⟩ := R.All.app h
      by_cases hc : c + evalL φ.ρ l = 0
      · obtain ⟨τ, h5, h6⟩ := addF_sound h1 hm (fact2 (by omega) (by rw [ng]; omega))
        exact ⟨true, τ, by simp [sbVal, hc], h5, h6⟩
      · obtain ⟨τ, h5, h6⟩ := forkNe_sound h2 hm hc
        exact ⟨false, τ, by simp [sbVal, hc], h5, h6⟩
  | m + 2 =>
    have h : R.All p (onSome (decEq (factsOf σ) c l) (fun b => k (!b) σ) (R.app (addF σ [.le c l, .le (Int.neg c) (negL l)] (k false)) (forkNe σ c l (k true)))) := h
    cases hd : decEq (factsOf σ) c l with
    | some b =>
      rw [hd] at h
      refine ⟨!b, σ, ?_, h, Stp.refl hm⟩
      rw [decEq_sound hm.factsHold hd]; rfl
    | none =>
      rw [hd] at h
      obtain ⟨h1, h2⟩ := R.All.app h
      by_cases hc : c + evalL φ.ρ l = 0
      · obtain ⟨τ, h5, h6⟩ := addF_sound h1 hm (fact2 (by omega) (by rw [ng]; omega))
        exact ⟨false, τ, by simp [sbVal, hc], h5, h6⟩
      · obtain ⟨τ, h5, h6⟩ := forkNe_sound h2 hm hc
        exact ⟨true, τ, by simp [sbVal, hc], h5, h6⟩

/-- A truth, known or not. -/
theorem onBf_told {α : Type} {p : α → Prop} {v : AV} {s : String} {k : Bool → R α} {k' : Bool → St → R α} (h : R.All p (v.onB k (forkB σ v s k'))) (hm : MR base φ σ w) :
    ∃ b τ, Told φ.ρ v b ∧ Stp base φ σ w φ τ w ∧ (R.All p (k' b τ) ∨ R.All p (k b) ∧ τ = σ) := by
  have other : R.All p (forkB σ v s k') → ∃ b τ, Told φ.ρ v b ∧ Stp base φ σ w φ τ w ∧ (R.All p (k' b τ) ∨ R.All p (k b) ∧ τ = σ) := fun h => by
    obtain ⟨b, τ, h1, h2, h3⟩ := forkB_told h hm
    exact ⟨b, τ, h1, h3, .inl h2⟩
  cases v with
  | a l => exact other h
  | t l => exact other h
  | c x =>
    cases x with
    | b b => exact ⟨b, σ, .inl rfl, Stp.refl hm, .inr ⟨h, rfl⟩⟩
    | i k n => exact other h
    | p b o => exact other h
    | s s => exact other h
    | o x => exact other h
theorem onBf_sound {α : Type} {p : α → Prop} {v : AV} {s : String} {k : Bool → R α} {k' : Bool → St → R α} (hk : ∀ b, k b = k' b σ) (h : R.All p (v.onB k (forkB σ v s k'))) (hm : MR base φ σ w) {u : Value} (hv : VR φ v u) :
    ∃ b τ, u = .bool b ∧ R.All p (k' b τ) ∧ Stp base φ σ w φ τ w := by
  obtain ⟨b, τ, h1, h2, h3⟩ := onBf_told h hm
  refine ⟨b, τ, h1.VR hv, ?_, h2⟩
  rcases h3 with h3 | ⟨h3, rfl⟩
  · exact h3
  · rw [← hk]; exact h3
theorem decSb_told {F : List Fact} (hF : ∀ f ∈ F, f.holds φ.ρ φ.str) {v : AV} {b : Bool} (h : decSb F v = some b) : Told φ.ρ v b := by
  obtain ⟨x, rfl, h1⟩ := onO_some h
  have h0 := h
  clear h
  revert h1
  cases x <;> intro h <;> first
    | (cases h; done)
    | skip
  rename_i m c l
  have h2 := decSb_sound hF h0 (u := .bool (sbVal φ.ρ m c l)) rfl
  injection h2 with h2
  exact .inr ⟨m, c, l, rfl, h2⟩
end
end Go.Ev
