/-
  Outcomes of a call that are told alike are one: what is left behind is forgotten, what is handed back gets new numbers.
-/
import Derived.Test.YtjjnhpoemcihgaaGreatEvwa
namespace Go.Ev

/-! ### cells whose blocks get other numbers -/
section
variable {ψ χ : Phi} {r : Nat → Option Nat}

/-- The other numbers lie where the old ones lay. -/
structure Ren (ψ χ : Phi) (r : Nat → Option Nat) (D : List Nat) : Prop where
  at' : ∀ b b', b ∈ D → r b = some b' → χ b' = ψ b
  lim : ∀ b g o, b ∈ D → ψ b = some (g, o) → χ.lim g = ψ.lim g
  ρ : χ.ρ = ψ.ρ
  str : χ.str = ψ.str
  val : ∀ b b' j v, b ∈ D → r b = some b' → ψ.val b j = some v → χ.val b' j = some v

theorem Ren.mono {D E : List Nat} (h : Ren ψ χ r D) (hs : ∀ b ∈ E, b ∈ D) : Ren ψ χ r E := ⟨fun b b' hb => h.at' b b' (hs b hb), fun b g o hb => h.lim b g o (hs b hb), h.ρ, h.str, fun b b' j v hb => h.val b b' j v (hs b hb)⟩

theorem renPs_sound : ∀ {l l' : List (Nat × Nat)} {vs : List Value}, renPs r l = some l' → Ren ψ χ r (l.map (·.1)) → All2 (VRp ψ) l vs → All2 (VRp χ) l' vs
  | [], l', [], h, _, _ => by cases h; trivial
  | p :: l, l', v :: vs, h, hr, ha => by
    obtain ⟨b, hb, h1⟩ := onSome_eq h
    obtain ⟨m, hm, h2⟩ := onSome_eq h1
    cases h2
    obtain ⟨g, o, h3, h4⟩ := ha.1
    exact ⟨⟨g, o, by rw [hr.at' p.1 b (by simp) hb]; exact h3, h4⟩, renPs_sound hm (hr.mono fun b hb => by simp at hb ⊢; exact .inr hb) ha.2⟩

theorem renO_sound {x x' : Oth} {v : Value} (h : renO r x = some x') (hr : Ren ψ χ r (refsO x)) (hv : VRo ψ x v) : VRo χ x' v := by
  cases x with
  | any => cases h; trivial
  | nilp => cases h; exact hv
  | nils => cases h; exact hv
  | emp => cases h; exact hv
  | nilm => cases h; exact hv
  | nilf => cases h; exact hv
  | nili => cases h; exact hv
  | sy k c l => cases h; simp only [VRo] at hv ⊢; rw [hr.ρ]; exact hv
  | ss i => cases h; simp only [VRo] at hv ⊢; rw [hr.str]; exact hv
  | sb m c l => cases h; simp only [VRo] at hv ⊢; rw [hr.ρ]; exact hv
  | pv b j =>
    obtain ⟨b', hb, h1⟩ := onSome_eq h
    cases h1
    exact hr.val b b' j v (by simp [refsO]) hb hv
  | slc b off len cap ex =>
    obtain ⟨b', hb, h1⟩ := onSome_eq h
    cases h1
    obtain ⟨g, o, c, h1, h2, h3, h4, h5, h6⟩ := hv
    exact ⟨g, o, c, by rw [hr.at' b b' (by simp [refsO]) hb]; exact h1, h2, h3, h4, h5, by rw [hr.lim b g o (by simp [refsO]) h1]; exact h6⟩
  | map b =>
    obtain ⟨b', hb, h1⟩ := onSome_eq h
    cases h1
    obtain ⟨g, h1, h2⟩ := hv
    exact ⟨g, by rw [hr.at' b b' (by simp [refsO]) hb]; exact h1, h2⟩
  | ifc t b =>
    obtain ⟨b', hb, h1⟩ := onSome_eq h
    cases h1
    obtain ⟨g, h1, h2⟩ := hv
    exact ⟨g, by rw [hr.at' b b' (by simp [refsO]) hb]; exact h1, h2⟩
  | fn f xs ys =>
    obtain ⟨xs', hx, h1⟩ := onSome_eq h
    obtain ⟨ys', hy, h2⟩ := onSome_eq h1
    cases h2
    obtain ⟨vs, ws, h1, h2, h3⟩ := hv
    exact ⟨vs, ws, h1, renPs_sound hx (hr.mono fun b hb => by simp only [refsO, List.mem_append]; exact .inl hb) h2, renPs_sound hy (hr.mono fun b hb => by simp only [refsO, List.mem_append]; exact .inr hb) h3⟩

theorem renC_sound {x x' : Cell} {v : Value} (h : renC r x = some x') (hr : Ren ψ χ r (refsC x)) (hv : VRc ψ x v) : VRc χ x' v := by
  cases x with
  | i k n => cases h; exact hv
  | b x => cases h; exact hv
  | s s => cases h; exact hv
  | p b o =>
    obtain ⟨b', hb, h1⟩ := onSome_eq h
    cases h1
    obtain ⟨g, o', h1, h2⟩ := hv
    exact ⟨g, o', by rw [hr.at' b b' (by simp [refsC]) hb]; exact h1, h2⟩
  | o x =>
    obtain ⟨x', hx, h1⟩ := onSome_eq h
    cases h1
    exact renO_sound hx hr hv

theorem renCs_get : ∀ {l l' : List Cell}, renCs r l = some l' → ∀ {i : Nat} {x' : Cell}, l'[i]? = some x' → ∃ x, l[i]? = some x ∧ renC r x = some x' ∧ ∀ b ∈ refsC x, b ∈ refsCs l
  | [], _, h, i, x', hx => by cases h; simp at hx
  | x :: l, l', h, i, x', hx => by
    obtain ⟨y, hy, h1⟩ := onSome_eq h
    obtain ⟨m, hm, h2⟩ := onSome_eq h1
    cases h2
    cases i with
    | zero => simp at hx; subst hx; exact ⟨x, rfl, hy, fun b hb => by simp [refsCs, hb]⟩
    | succ i =>
      simp at hx
      obtain ⟨z, h3, h4, h5⟩ := renCs_get hm hx
      exact ⟨z, by simpa using h3, h4, fun b hb => by simp [refsCs, h5 b hb]⟩
theorem renCs_sound : ∀ {l l' : List Cell} {vs : List Value}, renCs r l = some l' → Ren ψ χ r (refsCs l) → All2 (VRc ψ) l vs → All2 (VRc χ) l' vs
  | [], _, [], h, _, _ => by cases h; trivial
  | x :: l, _, v :: vs, h, hr, ha => by
    obtain ⟨y, hy, h1⟩ := onSome_eq h
    obtain ⟨m, hm, h2⟩ := onSome_eq h1
    cases h2
    exact ⟨renC_sound hy (hr.mono fun b hb => by simp [refsCs, hb]) ha.1, renCs_sound hm (hr.mono fun b hb => by simp [refsCs, hb]) ha.2⟩
theorem renTs_sound : ∀ {l l' : List TV} {vs : List Value}, renTs r l = some l' → Ren ψ χ r (refsTs l) → All2 (VRt ψ) l vs → All2 (VRt χ) l' vs
  | [], _, [], h, _, _ => by cases h; trivial
  | x :: l, _, v :: vs, h, hr, ha => by
    obtain ⟨y, hy, h1⟩ := onSome_eq h
    obtain ⟨m, hm, h2⟩ := onSome_eq h1
    cases h2
    refine ⟨?_, renTs_sound hm (hr.mono fun b hb => by cases x <;> simp [refsTs, hb]) ha.2⟩
    cases x with
    | c x =>
      obtain ⟨z, hz, h3⟩ := onSome_eq hy
      cases h3
      exact renC_sound hz (hr.mono fun b hb => by simp [refsTs, hb]) ha.1
    | a x =>
      obtain ⟨z, hz, h3⟩ := onSome_eq hy
      cases h3
      obtain ⟨cs, h4, h5⟩ := ha.1
      exact ⟨cs, h4, renCs_sound hz (hr.mono fun b hb => by simp [refsTs, hb]) h5⟩
theorem renV_sound {x x' : AV} {v : Value} (h : renV r x = some x') (hr : Ren ψ χ r (refsV x)) (hv : VR ψ x v) : VR χ x' v := by
  cases x with
  | c x => obtain ⟨y, hy, h1⟩ := onSome_eq h; cases h1; exact renC_sound hy hr hv
  | a l => obtain ⟨y, hy, h1⟩ := onSome_eq h; cases h1; obtain ⟨cs, h2, h3⟩ := hv; exact ⟨cs, h2, renCs_sound hy hr h3⟩
  | t l => obtain ⟨y, hy, h1⟩ := onSome_eq h; cases h1; obtain ⟨cs, h2, h3⟩ := hv; exact ⟨cs, h2, renTs_sound hy hr h3⟩
theorem renE_sound : ∀ {l l' : List (AV × AV × Nat)} {cs : List MapEntry}, renE r l = some l' → Ren ψ χ r (refsE l) → All2 (ER ψ) l cs → All2 (ER χ) l' cs
  | [], _, [], h, _, _ => by cases h; trivial
  | e :: l, _, c :: cs, h, hr, ha => by
    obtain ⟨k, hk, h1⟩ := onSome_eq h
    obtain ⟨v, hv, h2⟩ := onSome_eq h1
    obtain ⟨m, hm, h3⟩ := onSome_eq h2
    cases h3
    obtain ⟨⟨a1, a2, a3⟩, a4⟩ := ha
    exact ⟨⟨renV_sound hk (hr.mono fun b hb => by simp [refsE, hb]) a1, renV_sound hv (hr.mono fun b hb => by simp [refsE, hb]) a2, a3⟩, renE_sound hm (hr.mono fun b hb => by simp [refsE, hb]) a4⟩

theorem renCs_cons {x : Cell} {l l' : List Cell} (h : renCs r (x :: l) = some l') : ∃ y m, renC r x = some y ∧ renCs r l = some m ∧ l' = y :: m := by
  obtain ⟨y, hy, h1⟩ := onSome_eq h
  obtain ⟨m, hm, h2⟩ := onSome_eq h1
  cases h2
  exact ⟨y, m, hy, hm, rfl⟩
theorem renCs_length : ∀ {l l' : List Cell}, renCs r l = some l' → l'.length = l.length
  | [], _, h => by cases h; rfl
  | x :: l, _, h => by obtain ⟨y, m, _, hm, rfl⟩ := renCs_cons h; simp [renCs_length hm]
theorem renCs_append : ∀ {l m l' m' : List Cell}, renCs r l = some l' → renCs r m = some m' → renCs r (l ++ m) = some (l' ++ m')
  | [], m, l', m', h, h' => by cases h; exact h'
  | x :: l, m, l', m', h, h' => by
    obtain ⟨y, n, hy, hn, rfl⟩ := renCs_cons h
    show onSome (renC r x) (fun x => onSome (renCs r (l ++ m)) (fun l => some (x :: l)) none) none = _
    rw [hy, renCs_append hn h']; rfl
/-- Groups, each renamed: also in another order. -/
theorem renG_perm {gs hs : List (List Cell)} (hp : gs.Perm hs) : ∀ {gs' : List (List Cell)}, renG r gs = some gs' → ∃ hs', renG r hs = some hs' ∧ gs'.Perm hs' := by
  induction hp with
  | nil => intro gs' h; exact ⟨gs', h, .refl _⟩
  | cons x _ ih =>
    intro gs' h
    obtain ⟨y, hy, h1⟩ := onSome_eq h
    obtain ⟨m, hm, h2⟩ := onSome_eq h1
    cases h2
    obtain ⟨hs', h3, h4⟩ := ih hm
    exact ⟨y :: hs', by show onSome (renCs r x) _ none = _; rw [hy]; simp only [onSome_some]; rw [h3]; rfl, h4.cons y⟩
  | swap x y l =>
    intro gs' h
    obtain ⟨y', hy, h1⟩ := onSome_eq h
    obtain ⟨m, hm, h2⟩ := onSome_eq h1
    cases h2
    obtain ⟨x', hx, h3⟩ := onSome_eq hm
    obtain ⟨m', hm', h4⟩ := onSome_eq h3
    cases h4
    refine ⟨x' :: y' :: m', ?_, .swap x' y' m'⟩
    show onSome (renCs r x) _ none = _
    rw [hx]; simp only [onSome_some]
    rw [show renG r (y :: l) = some (y' :: m') from by show onSome (renCs r y) _ none = _; rw [hy]; simp only [onSome_some]; rw [hm']; rfl]
    rfl
  | trans _ _ ih1 ih2 =>
    intro gs' h
    obtain ⟨a, ha, hpa⟩ := ih1 h
    obtain ⟨b, hb, hpb⟩ := ih2 ha
    exact ⟨b, hb, hpa.trans hpb⟩
theorem renG_flatten : ∀ {gs gs' : List (List Cell)}, renG r gs = some gs' → renCs r gs.flatten = some gs'.flatten
  | [], _, h => by cases h; rfl
  | g :: gs, _, h => by
    obtain ⟨y, hy, h1⟩ := onSome_eq h
    obtain ⟨m, hm, h2⟩ := onSome_eq h1
    cases h2
    exact renCs_append hy (renG_flatten hm)
theorem refsCs_append (l m : List Cell) : refsCs (l ++ m) = refsCs l ++ refsCs m := by
  induction l with
  | nil => rfl
  | cons x l ih => show refsC x ++ refsCs (l ++ m) = _; rw [ih, ← List.append_assoc]; rfl
theorem refsG_flatten : ∀ gs : List (List Cell), refsG gs = refsCs gs.flatten
  | [] => rfl
  | g :: gs => by show refsCs g ++ refsG gs = refsCs (g ++ gs.flatten); rw [refsCs_append, refsG_flatten gs]

/-! the same numbers -/
theorem renPs_id : ∀ l : List (Nat × Nat), renPs some l = some l
  | [] => rfl
  | p :: l => by simp [renPs, renPs_id l, onSome]
theorem renC_id (x : Cell) : renC some x = some x := by
  cases x with
  | o x => cases x <;> simp [renC, renO, onSome, renPs_id]
  | _ => simp [renC, onSome]
theorem renCs_id : ∀ l : List Cell, renCs some l = some l
  | [] => rfl
  | x :: l => by simp [renCs, renC_id, renCs_id l, onSome]
theorem renTs_id : ∀ l : List TV, renTs some l = some l
  | [] => rfl
  | .c x :: l => by simp [renTs, renT, renC_id, renTs_id l, onSome]
  | .a x :: l => by simp [renTs, renT, renCs_id, renTs_id l, onSome]
theorem renV_id (x : AV) : renV some x = some x := by
  cases x <;> simp [renV, renC_id, renCs_id, renTs_id, onSome]
theorem renE_id : ∀ l : List (AV × AV × Nat), renE some l = some l
  | [] => rfl
  | e :: l => by simp [renE, renV_id, renE_id l, onSome]

theorem insSeen_mem {x y : Nat} : ∀ {l : List Nat}, y ∈ insSeen x l ↔ y = x ∨ y ∈ l
  | [] => by simp [insSeen]
  | z :: l => by
    unfold insSeen
    cases h1 : Nat.blt x z with
    | true => simp [ifb]
    | false =>
      cases h2 : Nat.beq x z with
      | true =>
        rw [beq_iff] at h2
        have h2 := of_decide_eq_true h2
        subst h2
        simp [ifb]
      | false => simp only [ifb, List.mem_cons, insSeen_mem]; exact ⟨fun h => by rcases h with h | h | h <;> simp [h], fun h => by rcases h with h | h | h <;> simp [h]⟩
theorem setSeen_mem {y : Nat} : ∀ {l : List Nat}, y ∈ setSeen l ↔ y ∈ l
  | [] => Iff.rfl
  | x :: l => by show y ∈ insSeen x (setSeen l) ↔ _; rw [insSeen_mem, setSeen_mem]; simp
/-- Rising. -/
def Rises : List Nat → Prop
  | [] => True
  | x :: l => (∀ y ∈ l, x < y) ∧ Rises l
theorem insSeen_rises {x : Nat} : ∀ {l : List Nat}, Rises l → Rises (insSeen x l)
  | [], _ => ⟨fun y h => (by cases h), trivial⟩
  | z :: l, hl => by
    unfold insSeen
    cases h1 : Nat.blt x z with
    | true =>
      have h1 : x < z := by simpa using h1
      refine ⟨fun y hy => ?_, hl⟩
      rcases List.mem_cons.1 hy with rfl | hy
      · exact h1
      · exact Nat.lt_trans h1 (hl.1 y hy)
    | false =>
      have h1 : ¬ x < z := by intro h; have : Nat.blt x z = true := by simpa using h
                              rw [h1] at this; cases this
      cases h2 : Nat.beq x z with
      | true => exact hl
      | false =>
        rw [beq_iff] at h2
        have h2 := of_decide_eq_false h2
        refine ⟨fun y hy => ?_, insSeen_rises hl.2⟩
        rcases insSeen_mem.1 hy with rfl | hy
        · omega
        · exact hl.1 y hy
theorem setSeen_rises : ∀ l : List Nat, Rises (setSeen l)
  | [] => trivial
  | _ :: l => insSeen_rises (setSeen_rises l)
theorem SeenR.set {cs seen : List Nat} (h : SeenR cs seen) : SeenR cs (setSeen seen) :=
  ⟨fun x => by rw [h.1 x, setSeen_mem], fun s r e => by
    have := setSeen_rises seen
    rw [e] at this
    exact absurd (this.1 s (by simp)) (Nat.lt_irrefl _)⟩
/-- A number that says something. -/
def Phi.dom (φ : Phi) (b : Nat) : Prop := φ b ≠ none ∨ φ.val b ≠ fun _ => none
/-! all that is named lies somewhere -/
theorem refsP_dom {φ : Phi} : ∀ {l : List (Nat × Nat)} {vs : List Value}, All2 (VRp φ) l vs → ∀ b ∈ l.map (·.1), φ.dom b
  | [], _, _, b, hb => by simp at hb
  | p :: l, v :: vs, h, b, hb => by
    simp only [List.map_cons, List.mem_cons] at hb
    rcases hb with rfl | hb
    · obtain ⟨g, o, h1, _⟩ := h.1; exact .inl (by rw [h1]; simp)
    · exact refsP_dom h.2 b hb
theorem refsC_dom {φ : Phi} {x : Cell} {v : Value} (h : VRc φ x v) : ∀ b ∈ refsC x, φ.dom b := by
  intro b hb
  cases x with
  | i k n => simp [refsC] at hb
  | b x => simp [refsC] at hb
  | s s => simp [refsC] at hb
  | p c o => simp [refsC] at hb; subst hb; obtain ⟨g, o', h1, _⟩ := h; exact .inl (by rw [h1]; simp)
  | o x =>
    cases x with
    | slc c off len cap ex => simp [refsC, refsO] at hb; subst hb; obtain ⟨g, o, c, h1, _⟩ := h; exact .inl (by rw [h1]; simp)
    | map c => simp [refsC, refsO] at hb; subst hb; obtain ⟨g, h1, _⟩ := h; exact .inl (by rw [h1]; simp)
    | ifc t c => simp [refsC, refsO] at hb; subst hb; obtain ⟨g, h1, _⟩ := h; exact .inl (by rw [h1]; simp)
    | fn f xs ys =>
      obtain ⟨vs, ws, _, h2, h3⟩ := h
      simp only [refsC, refsO, List.mem_append] at hb
      rcases hb with hb | hb
      · exact refsP_dom h2 b hb
      · exact refsP_dom h3 b hb
    | pv c j => simp [refsC, refsO] at hb; subst hb; exact .inr fun e => by have h : φ.val b j = some v := h; rw [e] at h; cases h
    | _ => simp [refsC, refsO] at hb
theorem refsCs_dom {φ : Phi} : ∀ {l : List Cell} {vs : List Value}, All2 (VRc φ) l vs → ∀ b ∈ refsCs l, φ.dom b
  | [], _, _, b, hb => by simp [refsCs] at hb
  | x :: l, v :: vs, h, b, hb => by
    simp only [refsCs, List.mem_append] at hb
    rcases hb with hb | hb
    · exact refsC_dom h.1 b hb
    · exact refsCs_dom h.2 b hb
theorem refsTs_dom {φ : Phi} : ∀ {l : List TV} {vs : List Value}, All2 (VRt φ) l vs → ∀ b ∈ refsTs l, φ.dom b
  | [], _, _, b, hb => by simp [refsTs] at hb
  | x :: l, v :: vs, h, b, hb => by
    cases x with
    | c x =>
      simp only [refsTs, List.mem_append] at hb
      rcases hb with hb | hb
      · exact refsC_dom h.1 b hb
      · exact refsTs_dom h.2 b hb
    | a x =>
      simp only [refsTs, List.mem_append] at hb
      rcases hb with hb | hb
      · obtain ⟨cs, _, h2⟩ := h.1; exact refsCs_dom h2 b hb
      · exact refsTs_dom h.2 b hb
theorem refsV_dom {φ : Phi} {x : AV} {v : Value} (h : VR φ x v) : ∀ b ∈ refsV x, φ.dom b := by
  cases x with
  | c x => exact refsC_dom h
  | a l => obtain ⟨cs, _, h2⟩ := h; exact refsCs_dom h2
  | t l => obtain ⟨cs, _, h2⟩ := h; exact refsTs_dom h2
theorem refsE_dom {φ : Phi} : ∀ {l : List (AV × AV × Nat)} {cs : List MapEntry}, All2 (ER φ) l cs → ∀ b ∈ refsE l, φ.dom b
  | [], _, _, b, hb => by simp [refsE] at hb
  | e :: l, c :: cs, h, b, hb => by
    simp only [refsE, List.mem_append] at hb
    obtain ⟨⟨a1, a2, _⟩, a4⟩ := h
    rcases hb with hb | hb | hb
    · exact refsV_dom a1 b hb
    · exact refsV_dom a2 b hb
    · exact refsE_dom a4 b hb

/-- A block that has not turned: it names what it named. -/
theorem BR.kept {φ ψ χ : Phi} {w u : World} {b : Nat} {x : ABlk} (h0 : BR φ w b x) (h1 : BR ψ u b x) (hb : ψ b = φ b) (hb' : χ b = φ b) (hag : ∀ c, φ.dom c → χ c = ψ c ∧ χ.val c = ψ.val c) (hl : χ.lim = ψ.lim) (hρ : χ.ρ = ψ.ρ) (hs : χ.str = ψ.str) (hvb : χ.val b = ψ.val b) : BR χ u b x := by
  have hr : ∀ D : List Nat, (∀ c ∈ D, φ.dom c) → Ren ψ χ some D := fun D hD => ⟨fun c c' hc e => by cases e; exact (hag c (hD c hc)).1, fun _ _ _ _ _ => by rw [hl], hρ, hs, fun c c' j v hc e hv => by cases e; rw [(hag c (hD c hc)).2]; exact hv⟩
  cases x with
  | none => trivial
  | cells e l rel old =>
    intro g o hp
    rw [hb'] at hp
    obtain ⟨cur0, _, hc0, _⟩ := h0 g o hp
    obtain ⟨cur, hg, hc, hlim⟩ := h1 g o (by rw [hb]; exact hp)
    refine ⟨cur, hg, fun i y hy => ?_, by rw [hl]; exact hlim⟩
    obtain ⟨v0, _, hv0⟩ := hc0 i y hy
    obtain ⟨v, hv, hvr⟩ := hc i y hy
    exact ⟨v, hv, renC_sound (renC_id y) (hr _ (refsC_dom hv0)) hvr⟩
  | map es c =>
    intro g o hp
    rw [hb'] at hp
    obtain ⟨_, ces0, _, he0⟩ := h0 g o hp
    obtain ⟨h2, ces, hg, he⟩ := h1 g o (by rw [hb]; exact hp)
    exact ⟨h2, ces, hg, renE_sound (renE_id es) (hr _ (refsE_dom he0)) he⟩
  | iter m s se st =>
    intro g o hp
    rw [hb'] at hp
    obtain ⟨_, cm0, cs0, _, _, hi0⟩ := h0 g o hp
    obtain ⟨h2, cm, cs, hg, hc, hi⟩ := h1 g o (by rw [hb]; exact hp)
    refine ⟨h2, cm, cs, hg, hc, ?_⟩
    cases m with
    | none => exact hi
    | some c =>
      obtain ⟨g0, h3, _⟩ := hi0
      obtain ⟨g1, h4, h5⟩ := hi
      exact ⟨g1, by rw [(hag c (.inl (by rw [h3]; simp))).1]; exact h4, h5⟩
  | facts l => exact ⟨by rw [hb', ← hb]; exact h1.1, fun f hf => by rw [hρ, hs]; exact h1.2 f hf⟩
  | perm gs =>
    obtain ⟨_, hs0, hp0, hv0, _⟩ := h0
    obtain ⟨h2, hs1, hp1, hv1, hn1⟩ := h1
    refine ⟨by rw [hb', ← hb]; exact h2, hs1, hp1, fun j c hj => ?_, fun j hj => by rw [hvb]; exact hn1 j hj⟩
    obtain ⟨v, h3, h4⟩ := hv1 j c hj
    refine ⟨v, by rw [hvb]; exact h3, renC_sound (renC_id c) (hr _ ?_) h4⟩
    have hmem : c ∈ hs1.flatten := List.mem_of_getElem? hj
    obtain ⟨g, hg, hcg⟩ := List.mem_flatten.1 hmem
    have hmem0 : c ∈ hs0.flatten := List.mem_flatten.2 ⟨g, (hp0.mem_iff).1 ((hp1.mem_iff).2 hg), hcg⟩
    obtain ⟨i, hi⟩ := List.getElem?_of_mem hmem0
    obtain ⟨v0, _, h5⟩ := hv0 i c hi
    exact refsC_dom h5
end
end Go.Ev
