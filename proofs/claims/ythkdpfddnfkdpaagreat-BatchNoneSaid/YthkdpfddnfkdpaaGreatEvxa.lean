/-
  Outcomes of a call that are told alike are one: what is left behind is forgotten, what is handed back gets new numbers.
-/
import Derived.Test.YthkdpfddnfkdpaaGreatEvx
namespace Go.Ev

/-! ### cells whose blocks get other numbers -/
section
variable {ψ χ : Phi} {r : Nat → Option Nat}

/-- The other numbers lie where the old ones lay. -/
structure Ren (ψ χ : Phi) (r : Nat → Option Nat) (D : List Nat) : Prop where
  at' : ∀ b b', b ∈ D → r b = some b' → χ b' = ψ b
  lim : ∀ b g o, b ∈ D → ψ b = some (g, o) → χ.lim g = ψ.lim g

theorem Ren.mono {D E : List Nat} (h : Ren ψ χ r D) (hs : ∀ b ∈ E, b ∈ D) : Ren ψ χ r E := ⟨fun b b' hb => h.at' b b' (hs b hb), fun b g o hb => h.lim b g o (hs b hb)⟩

theorem renPs_sound : ∀ {l l' : List (Nat × Nat)} {vs : List Value}, renPs r l = some l' → Ren ψ χ r (l.map (·.1)) → All2 (VRp ψ) l vs → All2 (VRp χ) l' vs
  | [], l', [], h, _, _ => by cases h; trivial
  | p :: l, l', v :: vs, h, hr, ha => by
    obtain ⟨b, hb, h1⟩ := onSome_eq h
    obtain ⟨m, hm, h2⟩ := onSome_eq h1
    cases h2
    obtain ⟨g, o, h3, h4⟩ := ha.1
    exact ⟨⟨g, o, by rw [hr.at' p.1 b (by simp) hb]; exact h3, h4⟩, renPs_sound hm (hr.mono fun b hb => by simp at hb ⊢; exact .inr hb) ha.2⟩

theorem renO_sound {x x' : Oth} {v : Value} (h : renO r x = some x') (hr : Ren ψ χ r (refsO x)) (hv : VRo ψ x v) : VRo χ x' v := by
  cases x with
  | any => cases h; trivial
  | nilp => cases h; exact hv
  | nils => cases h; exact hv
  | emp => cases h; exact hv
  | nilm => cases h; exact hv
  | nilf => cases h; exact hv
  | nili => cases h; exact hv
  | slc b off len cap ex =>
    obtain ⟨b', hb, h1⟩ := onSome_eq h
    cases h1
    obtain ⟨g, o, c, h1, h2, h3, h4, h5, h6⟩ := hv
    exact ⟨g, o, c, by rw [hr.at' b b' (by simp [refsO]) hb]; exact h1, h2, h3, h4, h5, by rw [hr.lim b g o (by simp [refsO]) h1]; exact h6⟩
  | map b =>
    obtain ⟨b', hb, h1⟩ := onSome_eq h
    cases h1
    obtain ⟨g, h1, h2⟩ := hv
    exact ⟨g, by rw [hr.at' b b' (by simp [refsO]) hb]; exact h1, h2⟩
  | ifc t b =>
    obtain ⟨b', hb, h1⟩ := onSome_eq h
    cases h1
    obtain ⟨g, h1, h2⟩ := hv
    exact ⟨g, by rw [hr.at' b b' (by simp [refsO]) hb]; exact h1, h2⟩
  | fn f xs ys =>
    obtain ⟨xs', hx, h1⟩ := onSome_eq h
    obtain ⟨ys', hy, h2⟩ := onSome_eq h1
    cases h2
    obtain ⟨vs, ws, h1, h2, h3⟩ := hv
    exact ⟨vs, ws, h1, renPs_sound hx (hr.mono fun b hb => by simp only [refsO, List.mem_append]; exact .inl hb) h2, renPs_sound hy (hr.mono fun b hb => by simp only [refsO, List.mem_append]; exact .inr hb) h3⟩

theorem renC_sound {x x' : Cell} {v : Value} (h : renC r x = some x') (hr : Ren ψ χ r (refsC x)) (hv : VRc ψ x v) : VRc χ x' v := by
  cases x with
  | i k n => cases h; exact hv
  | b x => cases h; exact hv
  | s s => cases h; exact hv
  | p b o =>
    obtain ⟨b', hb, h1⟩ := onSome_eq h
    cases h1
    obtain ⟨g, o', h1, h2⟩ := hv
    exact ⟨g, o', by rw [hr.at' b b' (by simp [refsC]) hb]; exact h1, h2⟩
  | o x =>
    obtain ⟨x', hx, h1⟩ := onSome_eq h
    cases h1
    exact renO_sound hx hr hv

theorem renCs_get : ∀ {l l' : List Cell}, renCs r l = some l' → ∀ {i : Nat} {x' : Cell}, l'[i]? = some x' → ∃ x, l[i]? = some x ∧ renC r x = some x' ∧ ∀ b ∈ refsC x, b ∈ refsCs l
  | [], _, h, i, x', hx => by cases h; simp at hx
  | x :: l, l', h, i, x', hx => by
    obtain ⟨y, hy, h1⟩ := onSome_eq h
    obtain ⟨m, hm, h2⟩ := onSome_eq h1
    cases h2
    cases i with
    | zero => simp at hx; subst hx; exact ⟨x, rfl, hy, fun b hb => by simp [refsCs, hb]⟩
    | succ i =>
      simp at hx
      obtain ⟨z, h3, h4, h5⟩ := renCs_get hm hx
      exact ⟨z, by simpa using h3, h4, fun b hb => by simp [refsCs, h5 b hb]⟩
theorem renCs_sound : ∀ {l l' : List Cell} {vs : List Value}, renCs r l = some l' → Ren ψ χ r (refsCs l) → All2 (VRc ψ) l vs → All2 (VRc χ) l' vs
  | [], _, [], h, _, _ => by cases h; trivial
  | x :: l, _, v :: vs, h, hr, ha => by
    obtain ⟨y, hy, h1⟩ := onSome_eq h
    obtain ⟨m, hm, h2⟩ := onSome_eq h1
    cases h2
    exact ⟨renC_sound hy (hr.mono fun b hb => by simp [refsCs, hb]) ha.1, renCs_sound hm (hr.mono fun b hb => by simp [refsCs, hb]) ha.2⟩
theorem renTs_sound : ∀ {l l' : List TV} {vs : List Value}, renTs r l = some l' → Ren ψ χ r (refsTs l) → All2 (VRt ψ) l vs → All2 (VRt χ) l' vs
  | [], _, [], h, _, _ => by cases h; trivial
  | x :: l, _, v :: vs, h, hr, ha => by
    obtain ⟨y, hy, h1⟩ := onSome_eq h
    obtain ⟨m, hm, h2⟩ := onSome_eq h1
    cases h2
    refine ⟨?_, renTs_sound hm (hr.mono fun b hb => by cases x <;> simp [refsTs, hb]) ha.2⟩
    cases x with
    | c x =>
      obtain ⟨z, hz, h3⟩ := onSome_eq hy
      cases h3
      exact renC_sound hz (hr.mono fun b hb => by simp [refsTs, hb]) ha.1
    | a x =>
      obtain ⟨z, hz, h3⟩ := onSome_eq hy
      cases h3
      obtain ⟨cs, h4, h5⟩ := ha.1
      exact ⟨cs, h4, renCs_sound hz (hr.mono fun b hb => by simp [refsTs, hb]) h5⟩
theorem renV_sound {x x' : AV} {v : Value} (h : renV r x = some x') (hr : Ren ψ χ r (refsV x)) (hv : VR ψ x v) : VR χ x' v := by
  cases x with
  | c x => obtain ⟨y, hy, h1⟩ := onSome_eq h; cases h1; exact renC_sound hy hr hv
  | a l => obtain ⟨y, hy, h1⟩ := onSome_eq h; cases h1; obtain ⟨cs, h2, h3⟩ := hv; exact ⟨cs, h2, renCs_sound hy hr h3⟩
  | t l => obtain ⟨y, hy, h1⟩ := onSome_eq h; cases h1; obtain ⟨cs, h2, h3⟩ := hv; exact ⟨cs, h2, renTs_sound hy hr h3⟩
theorem renE_sound : ∀ {l l' : List (AV × AV × Nat)} {cs : List MapEntry}, renE r l = some l' → Ren ψ χ r (refsE l) → All2 (ER ψ) l cs → All2 (ER χ) l' cs
  | [], _, [], h, _, _ => by cases h; trivial
  | e :: l, _, c :: cs, h, hr, ha => by
    obtain ⟨k, hk, h1⟩ := onSome_eq h
    obtain ⟨v, hv, h2⟩ := onSome_eq h1
    obtain ⟨m, hm, h3⟩ := onSome_eq h2
    cases h3
    obtain ⟨⟨a1, a2, a3⟩, a4⟩ := ha
    exact ⟨⟨renV_sound hk (hr.mono fun b hb => by simp [refsE, hb]) a1, renV_sound hv (hr.mono fun b hb => by simp [refsE, hb]) a2, a3⟩, renE_sound hm (hr.mono fun b hb => by simp [refsE, hb]) a4⟩

/-! the same numbers -/
theorem renPs_id : ∀ l : List (Nat × Nat), renPs some l = some l
  | [] => rfl
  | p :: l => by simp [renPs, renPs_id l, onSome]
theorem renC_id (x : Cell) : renC some x = some x := by
  cases x with
  | o x => cases x <;> simp [renC, renO, onSome, renPs_id]
  | _ => simp [renC, onSome]
theorem renCs_id : ∀ l : List Cell, renCs some l = some l
  | [] => rfl
  | x :: l => by simp [renCs, renC_id, renCs_id l, onSome]
theorem renTs_id : ∀ l : List TV, renTs some l = some l
  | [] => rfl
  | .c x :: l => by simp [renTs, renT, renC_id, renTs_id l, onSome]
  | .a x :: l => by simp [renTs, renT, renCs_id, renTs_id l, onSome]
theorem renV_id (x : AV) : renV some x = some x := by
  cases x <;> simp [renV, renC_id, renCs_id, renTs_id, onSome]
theorem renE_id : ∀ l : List (AV × AV × Nat), renE some l = some l
  | [] => rfl
  | e :: l => by simp [renE, renV_id, renE_id l, onSome]

/-! all that is named lies somewhere -/
theorem refsP_dom {φ : Phi} : ∀ {l : List (Nat × Nat)} {vs : List Value}, All2 (VRp φ) l vs → ∀ b ∈ l.map (·.1), φ b ≠ none
  | [], _, _, b, hb => by simp at hb
  | p :: l, v :: vs, h, b, hb => by
    simp only [List.map_cons, List.mem_cons] at hb
    rcases hb with rfl | hb
    · obtain ⟨g, o, h1, _⟩ := h.1; rw [h1]; simp
    · exact refsP_dom h.2 b hb
theorem refsC_dom {φ : Phi} {x : Cell} {v : Value} (h : VRc φ x v) : ∀ b ∈ refsC x, φ b ≠ none := by
  intro b hb
  cases x with
  | i k n => simp [refsC] at hb
  | b x => simp [refsC] at hb
  | s s => simp [refsC] at hb
  | p c o => simp [refsC] at hb; subst hb; obtain ⟨g, o', h1, _⟩ := h; rw [h1]; simp
  | o x =>
    cases x with
    | slc c off len cap ex => simp [refsC, refsO] at hb; subst hb; obtain ⟨g, o, c, h1, _⟩ := h; rw [h1]; simp
    | map c => simp [refsC, refsO] at hb; subst hb; obtain ⟨g, h1, _⟩ := h; rw [h1]; simp
    | ifc t c => simp [refsC, refsO] at hb; subst hb; obtain ⟨g, h1, _⟩ := h; rw [h1]; simp
    | fn f xs ys =>
      obtain ⟨vs, ws, _, h2, h3⟩ := h
      simp only [refsC, refsO, List.mem_append] at hb
      rcases hb with hb | hb
      · exact refsP_dom h2 b hb
      · exact refsP_dom h3 b hb
    | _ => simp [refsC, refsO] at hb
theorem refsCs_dom {φ : Phi} : ∀ {l : List Cell} {vs : List Value}, All2 (VRc φ) l vs → ∀ b ∈ refsCs l, φ b ≠ none
  | [], _, _, b, hb => by simp [refsCs] at hb
  | x :: l, v :: vs, h, b, hb => by
    simp only [refsCs, List.mem_append] at hb
    rcases hb with hb | hb
    · exact refsC_dom h.1 b hb
    · exact refsCs_dom h.2 b hb
theorem refsTs_dom {φ : Phi} : ∀ {l : List TV} {vs : List Value}, All2 (VRt φ) l vs → ∀ b ∈ refsTs l, φ b ≠ none
  | [], _, _, b, hb => by simp [refsTs] at hb
  | x :: l, v :: vs, h, b, hb => by
    cases x with
    | c x =>
      simp only [refsTs, List.mem_append] at hb
      rcases hb with hb | hb
      · exact refsC_dom h.1 b hb
      · exact refsTs_dom h.2 b hb
    | a x =>
      simp only [refsTs, List.mem_append] at hb
      rcases hb with hb | hb
      · obtain ⟨cs, _, h2⟩ := h.1; exact refsCs_dom h2 b hb
      · exact refsTs_dom h.2 b hb
theorem refsV_dom {φ : Phi} {x : AV} {v : Value} (h : VR φ x v) : ∀ b ∈ refsV x, φ b ≠ none := by
  cases x with
  | c x => exact refsC_dom h
  | a l => obtain ⟨cs, _, h2⟩ := h; exact refsCs_dom h2
  | t l => obtain ⟨cs, _, h2⟩ := h; exact refsTs_dom h2
theorem refsE_dom {φ : Phi} : ∀ {l : List (AV × AV × Nat)} {cs : List MapEntry}, All2 (ER φ) l cs → ∀ b ∈ refsE l, φ b ≠ none
  | [], _, _, b, hb => by simp [refsE] at hb
  | e :: l, c :: cs, h, b, hb => by
    simp only [refsE, List.mem_append] at hb
    obtain ⟨⟨a1, a2, _⟩, a4⟩ := h
    rcases hb with hb | hb | hb
    · exact refsV_dom a1 b hb
    · exact refsV_dom a2 b hb
    · exact refsE_dom a4 b hb

/-- A block that has not turned: it names what it named. -/
theorem BR.kept {φ ψ χ : Phi} {w u : World} {b : Nat} {x : ABlk} (h0 : BR φ w b x) (h1 : BR ψ u b x) (hb : ψ b = φ b) (hb' : χ b = φ b) (hag : ∀ c, φ c ≠ none → χ c = ψ c) (hl : χ.lim = ψ.lim) : BR χ u b x := by
  have hr : ∀ D : List Nat, (∀ c ∈ D, φ c ≠ none) → Ren ψ χ some D := fun D hD => ⟨fun c c' hc e => by cases e; exact hag c (hD c hc), fun _ _ _ _ _ => by rw [hl]⟩
  cases x with
  | none => trivial
  | cells e l rel old =>
    intro g o hp
    rw [hb'] at hp
    obtain ⟨cur0, _, hc0, _⟩ := h0 g o hp
    obtain ⟨cur, hg, hc, hlim⟩ := h1 g o (by rw [hb]; exact hp)
    refine ⟨cur, hg, fun i y hy => ?_, by rw [hl]; exact hlim⟩
    obtain ⟨v0, _, hv0⟩ := hc0 i y hy
    obtain ⟨v, hv, hvr⟩ := hc i y hy
    exact ⟨v, hv, renC_sound (renC_id y) (hr _ (refsC_dom hv0)) hvr⟩
  | map es c =>
    intro g o hp
    rw [hb'] at hp
    obtain ⟨_, ces0, _, he0⟩ := h0 g o hp
    obtain ⟨h2, ces, hg, he⟩ := h1 g o (by rw [hb]; exact hp)
    exact ⟨h2, ces, hg, renE_sound (renE_id es) (hr _ (refsE_dom he0)) he⟩
  | iter m s se st =>
    intro g o hp
    rw [hb'] at hp
    obtain ⟨_, cm0, cs0, _, _, hi0⟩ := h0 g o hp
    obtain ⟨h2, cm, cs, hg, hc, hi⟩ := h1 g o (by rw [hb]; exact hp)
    refine ⟨h2, cm, cs, hg, hc, ?_⟩
    cases m with
    | none => exact hi
    | some c =>
      obtain ⟨g0, h3, _⟩ := hi0
      obtain ⟨g1, h4, h5⟩ := hi
      exact ⟨g1, by rw [hag c (by rw [h3]; simp)]; exact h4, h5⟩
end
end Go.Ev
