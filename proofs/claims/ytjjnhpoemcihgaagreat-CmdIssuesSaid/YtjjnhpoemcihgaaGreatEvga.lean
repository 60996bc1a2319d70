/-
  Unknown whole numbers: what is told of sums holds.
-/
import Derived.Test.YtjjnhpoemcihgaaGreatEvf
import Derived.IntWalk
namespace Go.Ev

theorem nats_inj {s t : ByteArray} (h : nats s = nats t) : s = t := by
  have h1 : s.data.toList = t.data.toList := by
    have : ∀ l m : List UInt8, l.map UInt8.toNat = m.map UInt8.toNat → l = m := by
      intro l
      induction l with
      | nil => intro m h; cases m with
        | nil => rfl
        | cons => cases h
      | cons a l ih => intro m h; cases m with
        | nil => cases h
        | cons b m =>
          injection h with h1 h2
          rw [UInt8.toNat_inj.1 h1, ih m h2]
    exact this _ _ h
  cases s; cases t
  simp only [Array.toList_inj] at h1
  rw [h1]
theorem sameLin_eq : ∀ {l m : List (Nat × Int)}, sameLin l m = true → l = m
  | [], [], _ => rfl
  | p :: l, q :: m, h => by
    obtain ⟨h1, h2⟩ := ifb_and h
    obtain ⟨h3, h4⟩ := ifb_and h2
    rw [beq_iff] at h1
    rw [eqI_eq] at h3
    have h1 := of_decide_eq_true h1
    simp only [beq_iff_eq] at h3
    rw [show p = q from Prod.ext h1 h3, sameLin_eq h4]
  | [], _ :: _, h => by cases h
  | _ :: _, [], h => by cases h
section
variable {ρ : Nat → Int} {str : Nat → ByteArray}

theorem evalL_ins (v : Nat) (k : Int) : ∀ l : List (Nat × Int), evalL ρ (insL v k l) = k * ρ v + evalL ρ l
  | [] => rfl
  | p :: l => by
    unfold insL
    cases h : Nat.beq p.1 v with
    | true =>
      rw [beq_iff] at h
      have h := of_decide_eq_true h
      have e : (Int.add p.2 k) * ρ v = p.2 * ρ v + k * ρ v := Int.add_mul _ _ _
      cases hz : eqI (Int.add p.2 k) 0 with
      | true =>
        rw [eqI_eq] at hz
        have hz : Int.add p.2 k = 0 := by simpa using hz
        rw [hz, Int.zero_mul] at e
        show evalL ρ l = k * ρ v + (p.2 * ρ p.1 + evalL ρ l)
        rw [h]; omega
      | false =>
        show Int.add p.2 k * ρ v + evalL ρ l = k * ρ v + (p.2 * ρ p.1 + evalL ρ l)
        rw [h, e]; omega
    | false =>
      cases h2 : Nat.blt v p.1 with
      | true => rfl
      | false =>
        show p.2 * ρ p.1 + evalL ρ (insL v k l) = k * ρ v + (p.2 * ρ p.1 + evalL ρ l)
        rw [evalL_ins v k l]; omega
theorem evalL_add : ∀ l m : List (Nat × Int), evalL ρ (addL l m) = evalL ρ l + evalL ρ m
  | [], m => by simp [addL, evalL]
  | p :: l, m => by
    show evalL ρ (insL p.1 p.2 (addL l m)) = p.2 * ρ p.1 + evalL ρ l + evalL ρ m
    rw [evalL_ins, evalL_add l m]; omega
theorem evalL_scl (k : Int) : ∀ l : List (Nat × Int), evalL ρ (sclL k l) = k * evalL ρ l
  | [] => by simp [sclL, evalL]
  | p :: l => by
    show Int.mul k p.2 * ρ p.1 + evalL ρ (sclL k l) = k * (p.2 * ρ p.1 + evalL ρ l)
    rw [evalL_scl k l, Int.mul_add]
    have : Int.mul k p.2 * ρ p.1 = k * (p.2 * ρ p.1) := Int.mul_assoc _ _ _
    omega
theorem evalL_neg (l : List (Nat × Int)) : evalL ρ (negL l) = -evalL ρ l := by
  unfold negL; rw [evalL_scl]; omega

theorem ubV_sound {v : Nat} {up : Bool} : ∀ {F : List Fact} {b : Int}, (∀ f ∈ F, f.holds ρ str) → ubV v up F = some b → (if up then ρ v else -ρ v) ≤ b
  | [], b, _, h => by cases h
  | f :: F, b, hF, h => by
    have rest : ubV v up F = some b → (if up then ρ v else -ρ v) ≤ b := fun h => ubV_sound (fun g hg => hF g (List.mem_cons_of_mem _ hg)) h
    have h0 := hF f (by simp)
    unfold ubV at h
    split at h
    · cases h
    · rename_i c w k F' e
      cases e
      cases hc : ifb (Nat.beq w v) (eqI k (ifb up 1 (-1))) false with
      | false => rw [hc] at h; exact rest h
      | true =>
        rw [hc] at h
        obtain ⟨h1, h2⟩ := ifb_and hc
        rw [beq_iff] at h1
        have h1 := of_decide_eq_true h1
        rw [eqI_eq] at h2
        have h2 : k = ifb up 1 (-1) := by simpa using h2
        have h0 : c + (k * ρ w + 0) ≤ 0 := h0
        rw [h1, h2] at h0
        have mine : (if up then ρ v else -ρ v) ≤ Int.neg c := by
          show _ ≤ -c
          cases up <;> simp only [ifb] at h0 <;> simp <;> omega
        cases hr : ubV v up F with
        | none => rw [hr] at h; cases h; exact mine
        | some r =>
          rw [hr] at h
          have h : ifb (ltI (Int.neg c) r) (Int.neg c) r = b := by simpa [onSome] using h
          cases hl : ltI (Int.neg c) r with
          | true => rw [hl] at h; rw [← h]; exact mine
          | false => rw [hl] at h; rw [← h]; exact ubV_sound (fun g hg => hF g (List.mem_cons_of_mem _ hg)) hr
    · rename_i e; cases e; exact rest h

theorem ubL_sound {F : List Fact} (hF : ∀ f ∈ F, f.holds ρ str) : ∀ {l : List (Nat × Int)} {b : Int}, ubL F l = some b → evalL ρ l ≤ b
  | [], b, h => by cases h; exact Int.le_refl _
  | p :: l, b, h => by
    obtain ⟨r, hr, h1⟩ := onSome_eq (show onSome (ubL F l) _ none = some b from h)
    have ih := ubL_sound hF hr
    show p.2 * ρ p.1 + evalL ρ l ≤ b
    cases hn : ltI p.2 0 with
    | true =>
      rw [hn] at h1
      obtain ⟨q, hq, h2⟩ := onSome_eq (show onSome (ubV p.1 false F) _ none = some b from h1)
      cases h2
      rw [ltI_eq] at hn
      have hn : p.2 < 0 := by simpa using hn
      have h3 : -ρ p.1 ≤ q := by simpa using ubV_sound hF hq
      have h4 : (-p.2) * (-ρ p.1) ≤ (-p.2) * q := Int.mul_le_mul_of_nonneg_left h3 (by omega)
      rw [Int.neg_mul_neg] at h4
      show _ ≤ r + (-p.2) * q
      omega
    | false =>
      rw [hn] at h1
      obtain ⟨q, hq, h2⟩ := onSome_eq (show onSome (ubV p.1 true F) _ none = some b from h1)
      cases h2
      rw [ltI_eq] at hn
      have hn : ¬ p.2 < 0 := by simpa using hn
      have h3 : ρ p.1 ≤ q := by simpa using ubV_sound hF hq
      have h4 : p.2 * ρ p.1 ≤ p.2 * q := Int.mul_le_mul_of_nonneg_left h3 (by omega)
      show _ ≤ r + p.2 * q
      omega
theorem ubLe_sound {F : List Fact} (hF : ∀ f ∈ F, f.holds ρ str) {c : Int} {l : List (Nat × Int)} (h : ubLe F c l = true) : c + evalL ρ l ≤ 0 := by
  unfold ubLe at h
  cases hb : ubL F l with
  | none => rw [hb] at h; cases h
  | some b =>
    rw [hb] at h
    have h1 := ubL_sound hF hb
    have h : (!(ltI 0 (Int.add c b))) = true := h
    rw [ltI_eq] at h
    have h : ¬ 0 < Int.add c b := by simpa using h
    have h : ¬ 0 < c + b := h
    omega
theorem by1_sound {F : List Fact} (hF : ∀ f ∈ F, f.holds ρ str) {c : Int} {l : List (Nat × Int)} : ∀ {G : List Fact}, (∀ f ∈ G, f.holds ρ str) → by1 F c l G = true → c + evalL ρ l ≤ 0
  | [], _, h => by cases h
  | f :: G, hG, h => by
    have rest : by1 F c l G = true → c + evalL ρ l ≤ 0 := fun h => by1_sound hF (fun g hg => hG g (List.mem_cons_of_mem _ hg)) h
    have h0 := hG f (by simp)
    cases f with
    | le d m =>
      match m with
      | [] => exact rest h
      | [_] => exact rest h
      | p :: q :: m =>
      have h : ifb (ubLe F (Int.sub c d) (addL l (negL (p :: q :: m)))) true (by1 F c l G) = true := h
      cases hu : ubLe F (Int.sub c d) (addL l (negL (p :: q :: m))) with
      | true =>
        have h1 := ubLe_sound hF hu
        rw [evalL_add, evalL_neg] at h1
        have h0 : d + evalL ρ (p :: q :: m) ≤ 0 := h0
        have h1 : (c - d) + (evalL ρ l + -evalL ρ (p :: q :: m)) ≤ 0 := h1
        omega
      | false => rw [hu] at h; exact rest h
    | quo i d m k => exact rest h
    | mul i d m e n => exact rest h
    | sne i s => exact rest h
    | len v i => exact rest h
theorem by2_sound {F : List Fact} (hF : ∀ f ∈ F, f.holds ρ str) {c : Int} {l : List (Nat × Int)} : ∀ {G : List Fact}, (∀ f ∈ G, f.holds ρ str) → by2 F c l G = true → c + evalL ρ l ≤ 0
  | [], _, h => by cases h
  | f :: G, hG, h => by
    have hG' : ∀ f ∈ G, f.holds ρ str := fun g hg => hG g (List.mem_cons_of_mem _ hg)
    have rest : by2 F c l G = true → c + evalL ρ l ≤ 0 := fun h => by2_sound hF hG' h
    have h0 := hG f (by simp)
    cases f with
    | le d m =>
      match m with
      | [] => exact rest h
      | [_] => exact rest h
      | p :: q :: m =>
      have h : ifb (by1 F (Int.sub c d) (addL l (negL (p :: q :: m))) G) true (by2 F c l G) = true := h
      cases hu : by1 F (Int.sub c d) (addL l (negL (p :: q :: m))) G with
      | true =>
        have h1 := by1_sound hF hG' hu
        rw [evalL_add, evalL_neg] at h1
        have h0 : d + evalL ρ (p :: q :: m) ≤ 0 := h0
        have h1 : (c - d) + (evalL ρ l + -evalL ρ (p :: q :: m)) ≤ 0 := h1
        omega
      | false => rw [hu] at h; exact rest h
    | quo i d m k => exact rest h
    | mul i d m e n => exact rest h
    | sne i s => exact rest h
    | len v i => exact rest h
theorem provesLe_sound {F : List Fact} (hF : ∀ f ∈ F, f.holds ρ str) {c : Int} {l : List (Nat × Int)} (h : provesLe F c l = true) : c + evalL ρ l ≤ 0 := by
  unfold provesLe at h
  cases h1 : ubLe F c l with
  | true => exact ubLe_sound hF h1
  | false =>
    rw [h1] at h
    have h : ifb (by1 F c l F) true (by2 F c l F) = true := h
    cases h2 : by1 F c l F with
    | true => exact by1_sound hF hF h2
    | false => rw [h2] at h; exact by2_sound hF hF h
theorem decLe_sound {F : List Fact} (hF : ∀ f ∈ F, f.holds ρ str) {c : Int} {l : List (Nat × Int)} {b : Bool} (h : decLe F c l = some b) : b = decide (c + evalL ρ l ≤ 0) := by
  unfold decLe at h
  cases h1 : provesLe F c l with
  | true => rw [h1] at h; cases h; have := provesLe_sound hF h1; simp [this]
  | false =>
    rw [h1] at h
    obtain ⟨h2, h3⟩ := ifb_eq (show ifb (provesLe F (Int.sub 1 c) (negL l)) (some false) none = some b from h)
    cases h3
    have h4 := provesLe_sound hF h2
    rw [evalL_neg] at h4
    have h4 : (1 - c) + -evalL ρ l ≤ 0 := h4
    have : ¬ c + evalL ρ l ≤ 0 := by omega
    simp [this]
theorem decEq_sound {F : List Fact} (hF : ∀ f ∈ F, f.holds ρ str) {c : Int} {l : List (Nat × Int)} {b : Bool} (h : decEq F c l = some b) : b = decide (c + evalL ρ l = 0) := by
  unfold decEq at h
  cases h1 : ifb (provesLe F (Int.add c 1) l) true (provesLe F (Int.sub 1 c) (negL l)) with
  | true =>
    rw [h1] at h
    cases h
    have : ¬ c + evalL ρ l = 0 := by
      cases h2 : provesLe F (Int.add c 1) l with
      | true => have h3 : (c + 1) + evalL ρ l ≤ 0 := provesLe_sound hF h2; omega
      | false =>
        rw [h2] at h1
        have h4 := provesLe_sound hF (show provesLe F (Int.sub 1 c) (negL l) = true from h1)
        rw [evalL_neg] at h4
        have h4 : (1 - c) + -evalL ρ l ≤ 0 := h4
        omega
    simp [this]
  | false =>
    rw [h1] at h
    obtain ⟨h2, h3⟩ := ifb_eq (show ifb (ifb (provesLe F c l) (provesLe F (Int.neg c) (negL l)) false) (some true) none = some b from h)
    cases h3
    obtain ⟨h4, h5⟩ := ifb_and h2
    have h6 := provesLe_sound hF h4
    have h7 := provesLe_sound hF h5
    rw [evalL_neg] at h7
    have h7 : -c + -evalL ρ l ≤ 0 := h7
    have : c + evalL ρ l = 0 := by omega
    simp [this]
end

section
variable {φ : Phi} {base : Nat} {σ : St} {w : World}
theorem MR.factsHold (hm : MR base φ σ w) : ∀ f ∈ factsOf σ, f.holds φ.ρ φ.str := by
  have h := hm.blk 0
  unfold factsOf
  cases hb : hget σ 0 with
  | facts l => rw [hb] at h; exact h.2
  | _ => intro f hf; cases hf

theorem onL_some {α : Type} {x : AV} {k : IntKind → Int → List (Nat × Int) → Option α} {r : α} (h : x.onL k none = some r) :
    ∃ j c l, k j c l = some r ∧ ∀ (φ : Phi) (u : Value), VR φ x u → u = .int j (c + evalL φ.ρ l) := by
  cases x with
  | a l => cases h
  | t l => cases h
  | c x =>
    cases x with
    | i j n => exact ⟨j, n, [], h, fun φ u hu => by have hu : u = .int j n := hu; rw [hu]; simp [evalL]⟩
    | p b o => cases h
    | b x => cases h
    | s s => cases h
    | o x =>
      cases x <;> first
        | (cases h; done)
        | skip
      rename_i j c l
      exact ⟨j, c, l, h, fun φ u hu => hu⟩

theorem findSne_sound {F : List Fact} (hF : ∀ f ∈ F, f.holds φ.ρ φ.str) {i : Nat} {s : List Nat} {b : Bool} : findSne i s F = some b → b = false ∧ nats (φ.str i) ≠ s := by
  induction F with
  | nil => intro h; cases h
  | cons f F ih =>
    intro h
    have ih := ih (fun g hg => hF g (List.mem_cons_of_mem _ hg))
    cases f with
    | le d m => exact ih h
    | quo i d m k => exact ih h
    | mul i d m e n => exact ih h
    | len v i => exact ih h
    | sne j s' =>
      have h : ifb (ifb (Nat.beq i j) (eqNats s s') false) (some false) (findSne i s F) = some b := h
      cases hc : ifb (Nat.beq i j) (eqNats s s') false with
      | false => rw [hc] at h; exact ih h
      | true =>
        rw [hc] at h
        cases h
        obtain ⟨h1, h2⟩ := ifb_and hc
        rw [beq_iff] at h1
        have h1 := of_decide_eq_true h1
        rw [eqNats_eq] at h2
        simp only [beq_iff_eq] at h2
        have h0 := hF (.sne j s') (by simp)
        rw [h1, h2]
        exact ⟨rfl, h0⟩

theorem symS_sound {F : List Fact} (hF : ∀ f ∈ F, f.holds φ.ρ φ.str) {x y : AV} {u v : Value} {b : Bool} (h : symS F x y = some b) (hx : VR φ x u) (hy : VR φ y v) :
    ∃ s s' : ByteArray, u = .string s ∧ v = .string s' ∧ b = decide (s = s') := by
  have ne : ∀ {i : Nat} {l : List Nat}, findSne i l F = some b → ∀ s : ByteArray, nats s = l → b = false ∧ φ.str i ≠ s := by
    intro i l h s hs
    obtain ⟨h1, h2⟩ := findSne_sound hF h
    exact ⟨h1, fun e => h2 (by rw [e, hs])⟩
  cases x with
  | a l => cases h
  | t l => cases h
  | c x =>
    cases x with
    | i k n => cases h
    | p b o => cases h
    | b x => cases h
    | s l =>
      obtain ⟨s, rfl, hs⟩ := hx
      cases y with
      | a l => cases h
      | t l => cases h
      | c y =>
        cases y with
        | i k n => cases h
        | p b o => cases h
        | b x => cases h
        | s l => cases h
        | o y =>
          cases y <;> first
            | (cases h; done)
            | skip
          rename_i i
          obtain ⟨h1, h2⟩ := ne h s hs
          exact ⟨s, φ.str i, rfl, hy, by rw [h1, decide_eq_false fun e => h2 e.symm]⟩
    | o x =>
      cases x <;> first
        | (cases h; done)
        | skip
      rename_i i
      cases y with
      | a l => cases h
      | t l => cases h
      | c y =>
        cases y with
        | i k n => cases h
        | p b o => cases h
        | b x => cases h
        | s l =>
          obtain ⟨s, rfl, hs⟩ := hy
          obtain ⟨h1, h2⟩ := ne h s hs
          exact ⟨φ.str i, s, hx, rfl, by rw [h1, decide_eq_false h2]⟩
        | o y =>
          cases y <;> first
            | (cases h; done)
            | skip
          rename_i j
          obtain ⟨h1, h2⟩ := ifb_eq (show ifb (Nat.beq i j) (some true) none = some b from h)
          cases h2
          rw [beq_iff] at h1
          have h1 := of_decide_eq_true h1
          subst h1
          exact ⟨φ.str i, φ.str i, hx, hy, by simp⟩

theorem symI_sound {F : List Fact} (hF : ∀ f ∈ F, f.holds φ.ρ φ.str) {x y : AV} {u v : Value} {b : Bool} (h : symI F x y = some b) (hx : VR φ x u) (hy : VR φ y v) :
    ∃ k a c, u = .int k a ∧ v = .int k c ∧ (a == c) = b := by
  obtain ⟨k, c, l, h1, h2⟩ := onL_some h
  obtain ⟨j, d, m, h3, h4⟩ := onL_some h1
  obtain ⟨hk, h5⟩ := ifb_eq h3
  rw [eqK_eq] at hk
  subst hk
  refine ⟨k, _, _, h2 φ u hx, h4 φ v hy, ?_⟩
  rw [decEq_sound hF h5, evalL_add, evalL_neg, Bool.eq_iff_iff]
  simp only [decide_eq_true_eq, beq_iff_eq]
  show _ ↔ (c - d) + _ = 0
  omega
theorem onI_or {α : Type} {x : AV} {k : IntKind → Int → Option α} {e : Option α} {r : α} (h : x.onI k e = some r) : (∃ j n, x = .int j n ∧ k j n = some r) ∨ e = some r := by
  cases x with
  | a l => exact .inr h
  | t l => exact .inr h
  | c x => cases x <;> first | exact .inl ⟨_, _, rfl, h⟩ | exact .inr h
theorem onB_or {α : Type} {x : AV} {k : Bool → Option α} {e : Option α} {r : α} (h : x.onB k e = some r) : (∃ n, x = .bool n ∧ k n = some r) ∨ e = some r := by
  cases x with
  | a l => exact .inr h
  | t l => exact .inr h
  | c x => cases x <;> first | exact .inl ⟨_, rfl, h⟩ | exact .inr h
theorem onS_or {α : Type} {x : AV} {k : List Nat → Option α} {e : Option α} {r : α} (h : x.onS k e = some r) : (∃ n, x = .str n ∧ k n = some r) ∨ e = some r := by
  cases x with
  | a l => exact .inr h
  | t l => exact .inr h
  | c x => cases x <;> first | exact .inl ⟨_, rfl, h⟩ | exact .inr h
theorem findLen_sound {F : List Fact} (hF : ∀ f ∈ F, f.holds φ.ρ φ.str) {i : Nat} {r : AV} : findLen i F = some r → VR φ r (.int .i64 (φ.str i).size) := by
  induction F with
  | nil => intro h; cases h
  | cons f F ih =>
    intro h
    have ih := ih (fun g hg => hF g (List.mem_cons_of_mem _ hg))
    cases f with
    | le d m => exact ih h
    | quo i d m k => exact ih h
    | mul i d m e n => exact ih h
    | sne i s => exact ih h
    | len v j =>
      have h : ifb (Nat.beq i j) (some (.oth (.sy .i64 0 [(v, 1)]))) (findLen i F) = some r := h
      cases hc : Nat.beq i j with
      | false => rw [hc] at h; exact ih h
      | true =>
        rw [hc] at h
        cases h
        rw [beq_iff] at hc
        have hc := of_decide_eq_true hc
        subst hc
        have h0 : φ.ρ v = ((φ.str i).size : Int) := hF (.len v i) (by simp)
        show Value.int .i64 _ = Value.int .i64 (0 + (1 * φ.ρ v + 0))
        rw [h0]
        congr 1
        omega
end
end Go.Ev
