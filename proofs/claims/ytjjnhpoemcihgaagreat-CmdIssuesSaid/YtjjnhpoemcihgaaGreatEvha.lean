/-
  Operations on unknown whole numbers and strings.
-/
import Derived.Test.YtjjnhpoemcihgaaGreatEvh
namespace Go.Ev

section
variable {P : Program} {Γ : Tab} (hΓ : TabOk P Γ) {φ : Phi} {base : Nat} {σ : St} {w : World}

theorem wrap_fits {k : IntKind} {n : Int} (h1 : n ≤ maxI k) (h2 : minI k ≤ n) : k.wrap n = n := by
  cases k <;> simp only [maxI, minI] at h1 h2
  · exact IntWalk.i8_in n ⟨h2, h1⟩
  · exact IntWalk.i16_in n ⟨h2, h1⟩
  · exact IntWalk.i32_in n ⟨h2, h1⟩
  · exact IntWalk.i64_in n ⟨h2, h1⟩
  · exact IntWalk.u8_in n ⟨h2, h1⟩
  · exact IntWalk.u16_in n ⟨h2, h1⟩
  · exact IntWalk.u32_in n ⟨h2, h1⟩
  · exact IntWalk.u64_in n ⟨h2, h1⟩

theorem mkSy'_sound {F : List Fact} (hF : ∀ f ∈ F, f.holds φ.ρ φ.str) {k : IntKind} {c : Int} {l : List (Nat × Int)} {r : AV} (h : mkSy' F k c l = some r) :
    VR φ r (.int k (c + evalL φ.ρ l)) ∧ k.wrap (c + evalL φ.ρ l) = c + evalL φ.ρ l := by
  obtain ⟨h1, h2⟩ := ifb_eq h
  cases h2
  obtain ⟨h3, h4⟩ := ifb_and h1
  have h5 := provesLe_sound hF h3
  have h6 := provesLe_sound hF h4
  rw [evalL_neg] at h6
  have h5 : (c - maxI k) + evalL φ.ρ l ≤ 0 := h5
  have h6 : (minI k - c) + -evalL φ.ρ l ≤ 0 := h6
  exact ⟨rfl, wrap_fits (by omega) (by omega)⟩
theorem mkSy_sound {F : List Fact} (hF : ∀ f ∈ F, f.holds φ.ρ φ.str) {k : IntKind} {c : Int} {l : List (Nat × Int)} {r : AV} (h : mkSy F k c l = some r) : VR φ r (.int k (k.wrap (c + evalL φ.ρ l))) := by
  cases l with
  | nil =>
    cases h
    show Value.int k _ = Value.int k _
    rw [wrapF_eq]; simp [evalL]
  | cons p l =>
    have h : mkSy' F k c (p :: l) = some r := h
    obtain ⟨h1, h2⟩ := mkSy'_sound hF h
    rw [h2]; exact h1
theorem mkSb_sound {F : List Fact} (hF : ∀ f ∈ F, f.holds φ.ρ φ.str) (m : Nat) (c : Int) (l : List (Nat × Int)) : VR φ (mkSb F m c l) (.bool (sbVal φ.ρ m c l)) := by
  match m with
  | 0 =>
    show VR φ (onSome (decLe F c l) (fun b => AV.bool b) (.oth (.sb 0 c l))) _
    cases h : decLe F c l with
    | none => exact rfl
    | some b => rw [decLe_sound hF h]; exact rfl
  | 1 =>
    show VR φ (onSome (decEq F c l) (fun b => AV.bool b) (.oth (.sb 1 c l))) _
    cases h : decEq F c l with
    | none => exact rfl
    | some b => rw [decEq_sound hF h]; exact rfl
  | m + 2 =>
    show VR φ (onSome (decEq F c l) (fun b => AV.bool (!b)) (.oth (.sb 2 c l))) _
    cases h : decEq F c l with
    | none => exact rfl
    | some b => rw [decEq_sound hF h]; exact rfl

theorem findQuo_sound {F : List Fact} (hF : ∀ f ∈ F, f.holds φ.ρ φ.str) {c k : Int} {l : List (Nat × Int)} {i : Nat} : findQuo c l k F = some i → φ.ρ i = (c + evalL φ.ρ l).tdiv k := by
  induction F with
  | nil => intro h; cases h
  | cons f F ih =>
    intro h
    have ih := ih (fun g hg => hF g (List.mem_cons_of_mem _ hg))
    cases f with
    | le d m => exact ih h
    | mul i d m e n => exact ih h
    | sne i s => exact ih h
    | len v i => exact ih h
    | quo j c' l' k' =>
      have h : ifb (ifb (eqI c c') (ifb (eqI k k') (sameLin l l') false) false) (some j) (findQuo c l k F) = some i := h
      cases hc : ifb (eqI c c') (ifb (eqI k k') (sameLin l l') false) false with
      | false => rw [hc] at h; exact ih h
      | true =>
        rw [hc] at h
        cases h
        obtain ⟨h1, h2⟩ := ifb_and hc
        obtain ⟨h3, h4⟩ := ifb_and h2
        rw [eqI_eq] at h1 h3
        simp only [beq_iff_eq] at h1 h3
        have h0 := hF (.quo i c' l' k') (by simp)
        rw [h1, h3, sameLin_eq h4]
        exact h0

theorem findMul_sound {F : List Fact} (hF : ∀ f ∈ F, f.holds φ.ρ φ.str) {c d : Int} {l m : List (Nat × Int)} {i : Nat} : findMul c l d m F = some i → φ.ρ i = (c + evalL φ.ρ l) * (d + evalL φ.ρ m) := by
  induction F with
  | nil => intro h; cases h
  | cons f F ih =>
    intro h
    have ih := ih (fun g hg => hF g (List.mem_cons_of_mem _ hg))
    cases f with
    | le d m => exact ih h
    | quo i d m k => exact ih h
    | sne i s => exact ih h
    | len v i => exact ih h
    | mul j c' l' d' m' =>
      have h : ifb (ifb (eqI c c') (ifb (eqI d d') (ifb (sameLin l l') (sameLin m m') false) false) false) (some j) (findMul c l d m F) = some i := h
      cases hc : ifb (eqI c c') (ifb (eqI d d') (ifb (sameLin l l') (sameLin m m') false) false) false with
      | false => rw [hc] at h; exact ih h
      | true =>
        rw [hc] at h
        cases h
        obtain ⟨h1, h2⟩ := ifb_and hc
        obtain ⟨h3, h4⟩ := ifb_and h2
        obtain ⟨h5, h6⟩ := ifb_and h4
        rw [eqI_eq] at h1 h3
        simp only [beq_iff_eq] at h1 h3
        have h0 := hF (.mul i c' l' d' m') (by simp)
        rw [h1, h3, sameLin_eq h5, sameLin_eq h6]
        exact h0

theorem symB_sound {F : List Fact} (hF : ∀ f ∈ F, f.holds φ.ρ φ.str) {op : BinOp} {k : IntKind} {c d : Int} {l m : List (Nat × Int)} {r : AV} (h : (symB op).run F k c l d m = some r) (P : Program) (t : TypeId) (w : World) :
    op ≠ .shl ∧ op ≠ .shr ∧ ∃ z, (binOp op t (.int k (c + evalL φ.ρ l)) (.int k (d + evalL φ.ρ m))).run P w = .ok z w ∧ VR φ r z := by
  have use : ∀ {v : AV} {z : Value}, op ≠ .shl → op ≠ .shr → (intB op).run k (c + evalL φ.ρ l) (d + evalL φ.ρ m) = some v → (∀ u, VR φ v u → u = z) → VR φ r z →
      op ≠ .shl ∧ op ≠ .shr ∧ ∃ z, (binOp op t (.int k (c + evalL φ.ρ l)) (.int k (d + evalL φ.ρ m))).run P w = .ok z w ∧ VR φ r z := by
    intro v z h1 h2 h3 h4 h5
    obtain ⟨u, hu, hv⟩ := intB_sound h3 ⟨h1, h2⟩ P t w φ
    exact ⟨h1, h2, u, hu, by rw [h4 u hv]; exact h5⟩
  have num : ∀ {n : Int} (u : Value), VR φ (.int k n) u → u = .int k n := fun u hu => hu
  have tru : ∀ {b : Bool} (u : Value), VR φ (.bool b) u → u = .bool b := fun u hu => hu
  cases op <;> simp only [symB] at h <;> try (cases h; done)
  case add =>
    have h1 := mkSy_sound hF h
    rw [evalL_add] at h1
    refine use (by simp) (by simp) rfl num ?_
    rw [wrapF_eq]
    rw [show Int.add c d + (evalL φ.ρ l + evalL φ.ρ m) = Int.add (c + evalL φ.ρ l) (d + evalL φ.ρ m) from by show (c + d) + _ = (c + _) + (d + _); omega] at h1
    exact h1
  case sub =>
    have h1 := mkSy_sound hF h
    rw [evalL_add, evalL_neg] at h1
    refine use (by simp) (by simp) rfl num ?_
    rw [wrapF_eq]
    rw [show Int.sub c d + (evalL φ.ρ l + -evalL φ.ρ m) = Int.sub (c + evalL φ.ρ l) (d + evalL φ.ρ m) from by show (c - d) + _ = (c + _) - (d + _); omega] at h1
    exact h1
  case eql =>
    cases h
    refine use (by simp) (by simp) rfl tru ?_
    have h1 := mkSb_sound hF 1 (Int.sub c d) (addL l (negL m))
    have e : sbVal φ.ρ 1 (Int.sub c d) (addL l (negL m)) = eqI (c + evalL φ.ρ l) (d + evalL φ.ρ m) := by
      unfold sbVal
      rw [eqI_eq, evalL_add, evalL_neg, Bool.eq_iff_iff]
      simp only [decide_eq_true_eq, beq_iff_eq]
      show (c - d) + _ = 0 ↔ _
      omega
    rw [e] at h1; exact h1
  case neq =>
    cases h
    refine use (by simp) (by simp) rfl tru ?_
    have h1 := mkSb_sound hF 2 (Int.sub c d) (addL l (negL m))
    have e : sbVal φ.ρ 2 (Int.sub c d) (addL l (negL m)) = !(eqI (c + evalL φ.ρ l) (d + evalL φ.ρ m)) := by
      unfold sbVal
      rw [eqI_eq, evalL_add, evalL_neg]
      have e0 : decide (Int.sub c d + (evalL φ.ρ l + -evalL φ.ρ m) = 0) = (c + evalL φ.ρ l == d + evalL φ.ρ m) := by
        rw [Bool.eq_iff_iff]
        simp only [decide_eq_true_eq, beq_iff_eq]
        show (c - d) + _ = 0 ↔ _
        omega
      show (!decide _) = _
      rw [e0]
    rw [e] at h1; exact h1
  case lss =>
    cases h
    refine use (by simp) (by simp) rfl tru ?_
    have h1 := mkSb_sound hF 0 (Int.add (Int.sub c d) 1) (addL l (negL m))
    have e : sbVal φ.ρ 0 (Int.add (Int.sub c d) 1) (addL l (negL m)) = ltI (c + evalL φ.ρ l) (d + evalL φ.ρ m) := by
      unfold sbVal
      rw [ltI_eq, evalL_add, evalL_neg, Bool.eq_iff_iff]
      simp only [decide_eq_true_eq]
      show (c - d + 1) + _ ≤ 0 ↔ _
      omega
    rw [e] at h1; exact h1
  case leq =>
    cases h
    refine use (by simp) (by simp) rfl tru ?_
    have h1 := mkSb_sound hF 0 (Int.sub c d) (addL l (negL m))
    have e : sbVal φ.ρ 0 (Int.sub c d) (addL l (negL m)) = !(ltI (d + evalL φ.ρ m) (c + evalL φ.ρ l)) := by
      unfold sbVal
      rw [ltI_eq, evalL_add, evalL_neg, Bool.eq_iff_iff]
      simp only [decide_eq_true_eq, Bool.not_eq_true', decide_eq_false_iff_not]
      show (c - d) + _ ≤ 0 ↔ _
      omega
    rw [e] at h1; exact h1
  case gtr =>
    cases h
    refine use (by simp) (by simp) rfl tru ?_
    have h1 := mkSb_sound hF 0 (Int.add (Int.sub d c) 1) (addL m (negL l))
    have e : sbVal φ.ρ 0 (Int.add (Int.sub d c) 1) (addL m (negL l)) = ltI (d + evalL φ.ρ m) (c + evalL φ.ρ l) := by
      unfold sbVal
      rw [ltI_eq, evalL_add, evalL_neg, Bool.eq_iff_iff]
      simp only [decide_eq_true_eq]
      show (d - c + 1) + _ ≤ 0 ↔ _
      omega
    rw [e] at h1; exact h1
  case geq =>
    cases h
    refine use (by simp) (by simp) rfl tru ?_
    have h1 := mkSb_sound hF 0 (Int.sub d c) (addL m (negL l))
    have e : sbVal φ.ρ 0 (Int.sub d c) (addL m (negL l)) = !(ltI (c + evalL φ.ρ l) (d + evalL φ.ρ m)) := by
      unfold sbVal
      rw [ltI_eq, evalL_add, evalL_neg, Bool.eq_iff_iff]
      simp only [decide_eq_true_eq, Bool.not_eq_true', decide_eq_false_iff_not]
      show (d - c) + _ ≤ 0 ↔ _
      omega
    rw [e] at h1; exact h1
  case mul =>
    have zero : k.wrap 0 = 0 := by cases k <;> rfl
    refine use (by simp) (by simp) rfl num ?_
    rw [wrapF_eq]
    show VR φ r (.int k (k.wrap ((c + evalL φ.ρ l) * (d + evalL φ.ρ m))))
    split at h
    · cases hz : eqI c 0 with
      | true =>
        rw [hz] at h
        cases h
        rw [eqI_eq] at hz
        have hz : c = 0 := by simpa using hz
        subst hz
        simp only [evalL, Int.add_zero, Int.zero_mul, zero]
        exact rfl
      | false =>
        rw [hz] at h
        have h1 := mkSy_sound hF (show mkSy F k (Int.mul c d) (sclL c m) = some r from h)
        rw [evalL_scl, show Int.mul c d + c * evalL φ.ρ m = (c + evalL φ.ρ []) * (d + evalL φ.ρ m) from by show c * d + _ = (c + 0) * _; rw [Int.add_zero, Int.mul_add]] at h1
        exact h1
    · cases hz : eqI d 0 with
      | true =>
        rw [hz] at h
        cases h
        rw [eqI_eq] at hz
        have hz : d = 0 := by simpa using hz
        subst hz
        simp only [evalL, Int.add_zero, Int.mul_zero, zero]
        exact rfl
      | false =>
        rw [hz] at h
        have h1 := mkSy_sound hF (show mkSy F k (Int.mul c d) (sclL d l) = some r from h)
        rw [evalL_scl, show Int.mul c d + d * evalL φ.ρ l = (c + evalL φ.ρ l) * (d + evalL φ.ρ []) from by show c * d + _ = _ * (d + 0); rw [Int.add_zero, Int.add_mul, Int.mul_comm d]] at h1
        exact h1
    · obtain ⟨i, hi, h1⟩ := onSome_eq h
      have h2 := mkSy_sound hF h1
      rw [← findMul_sound hF hi]
      simpa [evalL] using h2
  case quo =>
    split at h
    · obtain ⟨hd, h1⟩ := ifb_eq h
      obtain ⟨i, hi, h2⟩ := onSome_eq h1
      rw [ltI_eq] at hd
      have hd : 0 < d := by simpa using hd
      have h3 := mkSy_sound hF h2
      have hq := findQuo_sound hF hi
      have hne : eqI (d + evalL φ.ρ []) 0 = false := by rw [eqI_eq]; simp [evalL]; omega
      refine use (by simp) (by simp) (v := .int k ((wrapF k).run (Int.tdiv (c + evalL φ.ρ l) (d + evalL φ.ρ [])))) (by show ifb (eqI _ 0) none _ = _; rw [hne]; rfl) num ?_
      rw [wrapF_eq, show d + evalL φ.ρ [] = d from by simp [evalL], ← hq]
      simpa [evalL] using h3
    · cases h
  case rem =>
    split at h
    · obtain ⟨hd, h1⟩ := ifb_eq h
      obtain ⟨i, hi, h2⟩ := onSome_eq h1
      rw [ltI_eq] at hd
      have hd : 0 < d := by simpa using hd
      have h3 := (mkSy'_sound hF h2).1
      have hq := findQuo_sound hF hi
      have hne : eqI (d + evalL φ.ρ []) 0 = false := by rw [eqI_eq]; simp [evalL]; omega
      refine use (by simp) (by simp) (v := .int k (Int.tmod (c + evalL φ.ρ l) (d + evalL φ.ρ []))) (by show ifb (eqI _ 0) none _ = _; rw [hne]; rfl) num ?_
      rw [evalL_add] at h3
      have e : c + (evalL φ.ρ l + evalL φ.ρ [(i, Int.neg d)]) = Int.tmod (c + evalL φ.ρ l) (d + evalL φ.ρ []) := by
        have hm := Int.mul_tdiv_add_tmod (c + evalL φ.ρ l) d
        rw [← hq] at hm
        rw [show d + evalL φ.ρ [] = d from by simp [evalL]]
        show c + (evalL φ.ρ l + (-d * φ.ρ i + 0)) = _
        have : -d * φ.ρ i = -(d * φ.ρ i) := Int.neg_mul _ _
        omega
      rw [e] at h3; exact h3
    · cases h

/-- What a binary operation comes to. -/
def BinOk (P : Program) (φ : Phi) (w : World) (op : BinOp) (t : TypeId) (ox oy : Operand) (u v : Value) (r : AV) : Prop :=
  ∃ z, ((do eqGuard op t ox oy u v; binOp op t u v) : Sem Value).run P w = .ok z w ∧ VR φ r z

theorem symN_sound (hm : MR base φ σ w) {op : BinOp} {t : TypeId} {x y r : AV} {u v : Value} (ox oy : Operand) (h : symN op σ x y = some r) (hx : VR φ x u) (hy : VR φ y v) : BinOk P φ w op t ox oy u v r := by
  obtain ⟨k, c, l, h1, h2⟩ := onL_some h
  obtain ⟨j, d, m, h3, h4⟩ := onL_some h1
  obtain ⟨hk, h5⟩ := ifb_eq h3
  rw [eqK_eq] at hk
  subst hk
  rw [h2 φ u hx, h4 φ v hy]
  obtain ⟨_, _, z, hz, hr⟩ := symB_sound hm.factsHold h5 P t w
  have hg := guard_free P w op t ox oy (.int k (c + evalL φ.ρ l)) (.int k (d + evalL φ.ρ m)) (fun h => by cases h.1) (fun _ _ h => by cases h.1)
  exact ⟨z, by simp [hg, hz], hr⟩


include hΓ
theorem symElems_sound {F : List Fact} (hF : ∀ f ∈ F, f.holds φ.ρ φ.str) {e : TypeId} {d : Nat} {kd : IntKind} (he : P.underlying e = some (.int kd)) {n : Nat} : ∀ (k i : Nat) {xs ys : List Cell} {v r : AV} {us vs : Array Value} {a : Bool} (w : World),
    (symElems Γ e n k i).run F xs ys v = some r → All2 (VRc φ) xs us.toList → All2 (VRc φ) ys vs.toList → VR φ v (.bool a) →
    ∃ q, (Op.eqItems (d + 1) e n us vs (List.range' i k)).run P w = .ok q w ∧ VR φ r (.bool (a && q))
  | 0, _, _, _, _, _, _, _, a, w, h, _, _, hv => by cases h; exact ⟨true, rfl, by rw [Bool.and_true]; exact hv⟩
  | k + 1, i, xs, ys, v, r, us, vs, a, w, h, hx, hy, hv => by
    unfold symElems at h
    obtain ⟨x, ha, h⟩ := onSome_eq h
    obtain ⟨y, hc, h⟩ := onSome_eq h
    obtain ⟨u, hu, hau⟩ := partB_sound hΓ ha hx w
    obtain ⟨z, hz, hcv⟩ := partB_sound hΓ hc hy w
    obtain ⟨k1, c, l, h, h2⟩ := onL_some h
    obtain ⟨j, c', m, h, h4⟩ := onL_some h
    obtain ⟨hk, h5⟩ := ifb_eq h
    rw [eqK_eq] at hk
    subst hk
    have h2 := h2 φ u hau
    have h4 := h4 φ z hcv
    subst h2; subst h4
    have hu : (part e us (i * n)).run P w = .ok _ w := hu
    have hz : (part e vs (i * n)).run P w = .ok _ w := hz
    have hq := run_equalIn_int w d e k1 kd (c + evalL φ.ρ l) (c' + evalL φ.ρ m) he
    have ev : decide (Int.sub c c' + evalL φ.ρ (addL l (negL m)) = 0) = (c + evalL φ.ρ l == c' + evalL φ.ρ m) := by
      rw [evalL_add, evalL_neg, Bool.eq_iff_iff, decide_eq_true_eq, beq_iff_eq]
      show (c - c') + _ = 0 ↔ _
      omega
    rw [List.range'_succ]
    cases hd : decEq F (Int.sub c c') (addL l (negL m)) with
    | some b =>
      rw [hd] at h5
      have hb := decEq_sound hF hd
      rw [ev] at hb
      rw [← hb] at hq
      cases b with
      | true =>
        obtain ⟨q, h6, h7⟩ := symElems_sound hF (d := d) he k (i + 1) (r := r) w h5 hx hy hv
        exact ⟨q, by simp [Op.eqItems, hu, hz, hq, h6], h7⟩
      | false =>
        cases h5
        exact ⟨false, by simp [Op.eqItems, hu, hz, hq], by rw [Bool.and_false]; exact rfl⟩
    | none =>
      rw [hd] at h5
      obtain ⟨b, rfl, h5⟩ := onB_some h5
      obtain ⟨hb, h5⟩ := ifb_eq h5
      subst hb
      have hv : Value.bool a = .bool true := hv
      injection hv with hv
      subst hv
      obtain ⟨q, h6, h7⟩ := symElems_sound hF (d := d) he k (i + 1) (r := r) (a := sbVal φ.ρ 1 (Int.sub c c') (addL l (negL m))) w h5 hx hy rfl
      rw [show sbVal φ.ρ 1 (Int.sub c c') (addL l (negL m)) = (c + evalL φ.ρ l == c' + evalL φ.ρ m) from ev] at h7
      simp only [Bool.true_and]
      cases he0 : (c + evalL φ.ρ l == c' + evalL φ.ρ m) with
      | true => rw [he0] at hq h7; exact ⟨q, by simp [Op.eqItems, hu, hz, hq, h6], by simpa using h7⟩
      | false => rw [he0] at hq h7; exact ⟨false, by simp [Op.eqItems, hu, hz, hq], by simpa using h7⟩

theorem symRow_sound (hm : MR base φ σ w) {t : TypeId} {x y r : AV} {u v : Value} (ox oy : Operand) (h : (symRow P Γ t).run σ x y = some r) (hx : VR φ x u) (hy : VR φ y v) : BinOk P φ w .eql t ox oy u v r := by
  unfold symRow at h
  split at h
  · rename_i len e hu
    split at h
    · rename_i kd he
      cases hs : Γ.size e with
      | none => rw [hs] at h; cases h
      | some n =>
        rw [hs] at h
        cases hg : P.eqGuardType P.depth t with
        | true => rw [hg] at h; cases h
        | false =>
          rw [hg] at h
          obtain ⟨xs, rfl, h⟩ := onA_some h
          obtain ⟨ys, rfl, h⟩ := onA_some h
          obtain ⟨us, rfl, hx⟩ := hx
          obtain ⟨vs, rfl, hy⟩ := hy
          obtain ⟨i, hi, rfl⟩ := hΓ.size hs
          obtain ⟨q, h1, h2⟩ := symElems_sound hΓ hm.factsHold (d := 9998) (hΓ.und he) len 0 (r := r) (a := true) w h hx hy rfl
          have h3 : (Op.equal t (.agg us) (.agg vs)).run P w = .ok q w := by
            rw [show Op.equal t (Value.agg us) (.agg vs) = Op.equalIn (9999 + 1) t (.agg us) (.agg vs) from rfl,
              run_equalIn_array w 9999 us vs (hΓ.und hu) hi, List.range_eq_range', show P.cellsOf e = i.size by simp [Program.cellsOf, hi]]
            exact h1
          refine ⟨.bool q, ?_, by simpa using h2⟩
          simp [run_eqGuard_agg w .eql t ox oy us vs hg, binOp, h3]
    · cases h
  · cases h

omit hΓ in
theorem shrS_sound (hm : MR base φ σ w) {t : TypeId} {x y r : AV} {u v : Value} (ox oy : Operand) (h : shrS σ x y = some r) (hx : VR φ x u) (hy : VR φ y v) : BinOk P φ w .shr t ox oy u v r := by
  obtain ⟨x, rfl, h1⟩ := onO_some h
  clear h
  revert h1 hx
  cases x <;> intro h hx <;> first
    | (cases h; done)
    | skip
  rename_i k c l
  obtain ⟨j, n, rfl, h1⟩ := onN_some h
  obtain ⟨h2, h3⟩ := ifb_eq h1
  obtain ⟨h4, h5⟩ := ifb_and h2
  rw [eqK_eq] at h4
  subst h4
  rw [beq_iff] at h5
  have h5 := of_decide_eq_true h5
  subst h5
  obtain ⟨v', hv', h6⟩ := onSome_eq h3
  obtain ⟨b, hb, h7⟩ := onSome_eq h6
  cases h7
  have hx : u = .int .i64 (c + evalL φ.ρ l) := hx
  have hy : v = .int j (.ofNat 63) := hy
  subst hx; subst hy
  have hr := (mkSy'_sound hm.factsHold hv').2
  have hd := decLe_sound hm.factsHold hb
  have hd : b = decide (c + evalL φ.ρ l < 0) := by
    rw [hd, Bool.eq_iff_iff, decide_eq_true_eq, decide_eq_true_eq]
    show (c + 1) + _ ≤ 0 ↔ _
    omega
  refine ⟨.int .i64 ((c + evalL φ.ρ l).fdiv (2 ^ (min 63 IntKind.i64.bits))), by simp; exact run_shr P w t .i64 j _ 63, ?_⟩
  generalize c + evalL φ.ρ l = a at *
  show Value.int .i64 _ = Value.int .i64 _
  congr 1
  have e : (2 : Int) ^ (min 63 IntKind.i64.bits) = 9223372036854775808 := rfl
  rw [e, Int.fdiv_eq_ediv_of_nonneg _ (by omega), hd]
  have h1 : -9223372036854775808 ≤ a ∧ a ≤ 9223372036854775807 := by
    rw [← hr]; simp only [IntKind.wrap, IntKind.signed, IntKind.bits]; simp; omega
  by_cases ha : a < 0
  · simp [ha, ifb]; omega
  · simp [ha, ifb]; omega

theorem binS_sound (hm : MR base φ σ w) {op : BinOp} {t : TypeId} {x y r : AV} {u v : Value} (ox oy : Operand) (h : (binS P Γ op t).run σ x y = some r) (hx : VR φ x u) (hy : VR φ y v) : BinOk P φ w op t ox oy u v r := by
  have str : ∀ {b : Bool}, symS (factsOf σ) x y = some b → BinOk P φ w .eql t ox oy u v (.bool b) ∧ BinOk P φ w .neq t ox oy u v (.bool (!b)) := by
    intro b hb
    obtain ⟨s, s', rfl, rfl, e⟩ := symS_sound hm.factsHold hb hx hy
    have e2 : (nats s == nats s') = b := by
      rw [e, Bool.eq_iff_iff, beq_iff_eq, decide_eq_true_eq]; exact ⟨nats_inj, fun e => by rw [e]⟩
    have h1 : (strB .eql).run (nats s) (nats s') = some (.bool b) := by rw [← e2, ← eqNats_eq]; rfl
    have h2 : (strB .neq).run (nats s) (nats s') = some (.bool (!b)) := by rw [← e2, ← eqNats_eq]; rfl
    obtain ⟨z1, hz1, hr1⟩ := strB_sound h1 P t w φ
    obtain ⟨z2, hz2, hr2⟩ := strB_sound h2 P t w φ
    exact ⟨⟨z1, by simp [guard_free P w .eql t ox oy (.string s) (.string s') (by simp) (by simp), hz1], hr1⟩, ⟨z2, by simp [guard_free P w .neq t ox oy (.string s) (.string s') (by simp) (by simp), hz2], hr2⟩⟩
  have rest : symN op σ x y = some r → BinOk P φ w op t ox oy u v r := fun h => symN_sound hm ox oy h hx hy
  cases op
  case eql =>
    have h : onSome (symN .eql σ x y) (fun r => some r) (onSome (symS (factsOf σ) x y) (fun r => some (.bool r)) ((symRow P Γ t).run σ x y)) = some r := by
      unfold binS at h; rw [Bx.use_eq] at h; exact h
    cases hn : symN .eql σ x y with
    | some r' => rw [hn] at h; cases h; exact rest hn
    | none =>
      rw [hn] at h
      cases hs : symS (factsOf σ) x y with
      | some b => rw [hs] at h; cases h; exact (str hs).1
      | none => rw [hs] at h; exact symRow_sound hΓ hm ox oy h hx hy
  case shr => exact shrS_sound hm ox oy h hx hy
  case neq =>
    have h : onSome (symN .neq σ x y) (fun r => some r) (onSome (symS (factsOf σ) x y) (fun r => some (.bool (!r))) none) = some r := h
    cases hn : symN .neq σ x y with
    | some r' => rw [hn] at h; cases h; exact rest hn
    | none =>
      rw [hn] at h
      cases hs : symS (factsOf σ) x y with
      | some b => rw [hs] at h; cases h; exact (str hs).2
      | none => rw [hs] at h; cases h
  all_goals exact rest h

theorem binB_sound (hm : MR base φ σ w) {op : BinOp} {t : TypeId} {x y : AV} {r : AV} {u v : Value} (ox oy : Operand) (h : (binB P Γ op t).run σ x y = some r) (hx : VR φ x u) (hy : VR φ y v) :
    ∃ z, ((do eqGuard op t ox oy u v; binOp op t u v) : Sem Value).run P w = .ok z w ∧ VR φ r z := by
  unfold binB at h
  rw [Bx.use_eq, Bx.use_eq] at h
  have h : onSome ((binB0 P Γ op t).run σ x y) (fun v => some v) ((binS P Γ op t).run σ x y) = some r := h
  cases h0 : (binB0 P Γ op t).run σ x y with
  | some r' => rw [h0] at h; cases h; exact binB0_sound hΓ hm ox oy h0 hx hy
  | none => rw [h0] at h; exact binS_sound hΓ hm ox oy h hx hy
end
end Go.Ev
