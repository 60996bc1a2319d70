/-
  Equality by a type; maps that are asked.
-/
import Derived.Test.YtjjnhpoemcihgaaGreatEvga
import Derived.ChangeKeysEq
namespace Go.Ev

section
variable {P : Program} {Γ : Tab} (hΓ : TabOk P Γ) {φ : Phi}
include hΓ

/-- What an equality by a type must answer. -/
def EqOk (P : Program) (φ : Phi) (q : AV → AV → Option Bool) (d : Nat) (t : TypeId) : Prop :=
  ∀ x y r u v w, q x y = some r → VR φ x u → VR φ y v → (Op.equalIn d t u v).run P w = .ok r w

theorem eqFieldsB_sound {F : List Fact} {r : TypeId → EqB} {d : Nat} (hr : ∀ t, EqOk P φ ((r t).run F) d t) : ∀ (fs : List Field) {xs ys : List Cell} {b : Bool} {us vs : Array Value} (w : World),
    (eqFieldsB Γ r fs).run F xs ys = some b → All2 (VRc φ) xs us.toList → All2 (VRc φ) ys vs.toList → (Op.eqFields d us vs fs).run P w = .ok b w
  | [], _, _, _, _, _, w, h, _, _ => by cases h; rfl
  | f :: fs, xs, ys, b, us, vs, w, h, hx, hy => by
    unfold eqFieldsB at h
    by_cases hn : f.name = "_"
    · simp only [hn, decide_true] at h
      have := eqFieldsB_sound hr fs w h hx hy
      simpa [Op.eqFields, hn] using this
    · simp only [hn, decide_false] at h
      obtain ⟨a, ha, h⟩ := onSome_eq h
      obtain ⟨c, hc, h⟩ := onSome_eq h
      obtain ⟨e, he, h⟩ := onSome_eq h
      obtain ⟨u, hu, hau⟩ := partB_sound hΓ ha hx w
      obtain ⟨v, hv, hcv⟩ := partB_sound hΓ hc hy w
      have heq := hr f.type a c e u v w he hau hcv
      cases e with
      | false =>
        cases h
        simp [Op.eqFields, hn, hu, hv, heq]
      | true =>
        have := eqFieldsB_sound hr fs w h hx hy
        simp [Op.eqFields, hn, hu, hv, heq, this]

theorem eqElemsB_sound {F : List Fact} {r : TypeId → EqB} {d : Nat} {e : TypeId} (hr : EqOk P φ ((r e).run F) d e) {n : Nat} : ∀ (k i : Nat) {xs ys : List Cell} {b : Bool} {us vs : Array Value} (w : World),
    (eqElemsB Γ r e n k i).run F xs ys = some b → All2 (VRc φ) xs us.toList → All2 (VRc φ) ys vs.toList → (Op.eqItems d e n us vs (List.range' i k)).run P w = .ok b w
  | 0, _, _, _, _, _, _, w, h, _, _ => by cases h; rfl
  | k + 1, i, xs, ys, b, us, vs, w, h, hx, hy => by
    unfold eqElemsB at h
    obtain ⟨a, ha, h⟩ := onSome_eq h
    obtain ⟨c, hc, h⟩ := onSome_eq h
    obtain ⟨q, hq, h⟩ := onSome_eq h
    obtain ⟨u, hu, hau⟩ := partB_sound hΓ ha hx w
    obtain ⟨v, hv, hcv⟩ := partB_sound hΓ hc hy w
    have heq := hr a c q u v w hq hau hcv
    have hu : (part e us (i * n)).run P w = .ok u w := hu
    have hv : (part e vs (i * n)).run P w = .ok v w := hv
    rw [List.range'_succ]
    cases q with
    | false => cases h; simp [Op.eqItems, hu, hv, heq]
    | true =>
      have := eqElemsB_sound hr k (i + 1) w h hx hy
      simp [Op.eqItems, hu, hv, heq, this]

theorem eqB_sound {F : List Fact} (hF : ∀ f ∈ F, f.holds φ.ρ φ.str) : ∀ (d : Nat) (t : TypeId), EqOk P φ ((eqB P Γ d t).run F) d t
  | 0, t => fun x y r u v w h _ _ => by cases h
  | d + 1, t => fun x y r u v w h hx hy => by
    unfold eqB at h
    split at h
    · rename_i hu
      obtain ⟨a, rfl, h⟩ := onB_some h
      obtain ⟨b, rfl, h⟩ := onB_some h
      cases h
      have hx : u = .bool a := hx
      have hy : v = .bool b := hy
      subst hx; subst hy
      rw [run_equalIn_bool' w d t a b (hΓ.und hu)]
      cases a <;> cases b <;> rfl
    · rename_i k hu
      have sym : symI F x y = some r → (Op.equalIn (d + 1) t u v).run P w = .ok r w := by
        intro h
        obtain ⟨j, a, b, rfl, rfl, e⟩ := symI_sound hF h hx hy
        rw [run_equalIn_int w d t j k a b (hΓ.und hu), e]
      rcases onI_or h with ⟨j, a, rfl, h⟩ | h
      · rcases onI_or h with ⟨j', b, rfl, h⟩ | h
        · obtain ⟨hk, h⟩ := ifb_eq h
          cases h
          rw [eqK_eq] at hk
          subst hk
          have hx : u = .int j a := hx
          have hy : v = .int j b := hy
          subst hx; subst hy
          rw [run_equalIn_int w d t j k a b (hΓ.und hu), eqI_eq]
        · exact sym h
      · exact sym h
    · rename_i hu
      have sym : symS F x y = some r → (Op.equalIn (d + 1) t u v).run P w = .ok r w := by
        intro h
        obtain ⟨s, s', rfl, rfl, e⟩ := symS_sound hF h hx hy
        rw [run_equalIn_string w d t s s' (hΓ.und hu), e]
        rw [← nats_eq]
        have e2 : (nats s == nats s') = decide (s = s') := by
          rw [Bool.eq_iff_iff, beq_iff_eq, decide_eq_true_eq]; exact ⟨nats_inj, fun e => by rw [e]⟩
        rw [e2]
      rcases onS_or h with ⟨a, rfl, h⟩ | h
      · rcases onS_or h with ⟨b, rfl, h⟩ | h
        · cases h
          obtain ⟨s, rfl, rfl⟩ := hx
          obtain ⟨s', rfl, rfl⟩ := hy
          rw [run_equalIn_string w d t s s' (hΓ.und hu), eqNats_eq, nats_eq]
        · exact sym h
      · exact sym h
    · rename_i fs hu
      cases hs : P.stoodInHeld t with
      | true => rw [hs] at h; cases h
      | false =>
        rw [hs] at h
        obtain ⟨xs, rfl, h⟩ := onA_some h
        obtain ⟨ys, rfl, h⟩ := onA_some h
        obtain ⟨us, rfl, hx⟩ := hx
        obtain ⟨vs, rfl, hy⟩ := hy
        have hf : P.fieldsOf t = fs := by simp [Program.fieldsOf, hΓ.und hu]
        rw [run_equalIn_struct w d t us vs (by rw [hf]; exact hΓ.und hu) hs, hf]
        exact eqFieldsB_sound hΓ (fun t => eqB_sound hF d t) fs.toList w h hx hy
    · rename_i len e hu
      cases hs : Γ.size e with
      | none => rw [hs] at h; cases h
      | some n =>
        rw [hs] at h
        obtain ⟨xs, rfl, h⟩ := onA_some h
        obtain ⟨ys, rfl, h⟩ := onA_some h
        obtain ⟨us, rfl, hx⟩ := hx
        obtain ⟨vs, rfl, hy⟩ := hy
        obtain ⟨i, hi, rfl⟩ := hΓ.size hs
        rw [run_equalIn_array w d us vs (hΓ.und hu) hi, List.range_eq_range', show P.cellsOf e = i.size by simp [Program.cellsOf, hi]]
        exact eqElemsB_sound hΓ (eqB_sound hF d e) len 0 w h hx hy
    · cases h
end

/-! ### maps -/
section
variable {P : Program} {φ : Phi}

theorem run_checkKey_leaf {t : TypeId} {d : TypeDesc} (h : P.underlying t = some d) (empty : Bool) (n : Nat) (v : Value) (hd : d = .string ∨ d = .bool ∨ ∃ k, d = .int k) (w : World) :
    (Instr.checkKey empty (n + 1) t v).run P w = .ok () w := by
  rcases hd with rfl | rfl | ⟨k, rfl⟩ <;> simp [Instr.checkKey, run_underlying h]

end
section
variable {P : Program} {Γ : Tab} (hΓ : TabOk P Γ) {φ : Phi}
include hΓ

theorem keyOkB_sound : ∀ (d : Nat) (t : TypeId) (x : AV) (u : Value) (empty : Bool) (w : World), (keyOkB Γ d t).run x = true → VR φ x u → (Instr.checkKey empty d t u).run P w = .ok () w
  | 0, _, _, _, _, _, h, _ => by cases h
  | d + 1, t, x, u, empty, w, h, hx => by
    unfold keyOkB at h
    split at h
    · rename_i k hu; exact run_checkKey_leaf (hΓ.und hu) empty d u (.inr (.inr ⟨k, rfl⟩)) w
    · rename_i hu; exact run_checkKey_leaf (hΓ.und hu) empty d u (.inl rfl) w
    · rename_i hu; exact run_checkKey_leaf (hΓ.und hu) empty d u (.inr (.inl rfl)) w
    · rename_i fs hu
      cases x with
      | c x => cases h
      | t l => cases h
      | a cs =>
        obtain ⟨us, rfl, hx⟩ := hx
        simp only [AV.onA] at h
        simp only [Instr.checkKey, Sem.run_bind, run_underlying (hΓ.und hu), Result.andThen_ok]
        rw [← Array.forIn_toList]
        generalize fs.toList = fl at h
        clear hu
        induction fl generalizing w with
        | nil => simp
        | cons f fl ih =>
          rw [List.all_cons, Bool.and_eq_true] at h
          obtain ⟨h1, h2⟩ := h
          simp only [List.forIn_cons, Sem.run_bind, Sem.run_ite]
          by_cases hn : f.name = "_"
          · simp only [hn, ne_eq, not_true_eq_false, if_false, Sem.run_pure, Result.andThen_ok]
            exact ih w h2
          · simp only [hn, decide_false] at h1
            cases hp : (partB Γ f.type f.offset).run cs with
            | none => rw [hp] at h1; cases h1
            | some y =>
              rw [hp] at h1
              obtain ⟨v, hv, hyv⟩ := partB_sound hΓ hp hx w
              have := keyOkB_sound d f.type y v empty w h1 hyv
              simp only [ne_eq, hn, not_false_eq_true, if_true, hv, Result.andThen_ok, this, Sem.run_pure]
              exact ih w h2
    · cases h

/-- A key is found as the model finds it. -/
theorem findE_sound {F : List Fact} (hF : ∀ f ∈ F, f.holds φ.ρ φ.str) {kt : TypeId} {k : AV} {uk : Value} (hk : VR φ k uk) : ∀ (es : List (AV × AV × Nat)) (ces : List MapEntry) (i : Nat) (r : Option (Nat × AV × Nat)) (w : World),
    findE ((eqB P Γ 10000 kt).run F) k es i = some r → All2 (ER φ) es ces →
    match r with
    | none => (Instr.findAsking kt uk ces i).run P w = .ok none w
    | some (j, v, born) => ∃ u c, (Instr.findAsking kt uk ces i).run P w = .ok (some (j, u)) w ∧ VR φ v u ∧ i ≤ j ∧ ces[j - i]? = some c ∧ c.val = u ∧ c.born = born ∧
        ∃ e, es[j - i]? = some e ∧ e.2.1 = v ∧ e.2.2 = born ∧ (eqB P Γ 10000 kt).run F k e.1 = some true
  | [], [], i, r, w, h, _ => by cases h; rfl
  | e :: es, c :: ces, i, r, w, h, hes => by
    unfold findE at h
    obtain ⟨b, hb, h⟩ := onSome_eq h
    have heq : (Op.equal kt uk c.key).run P w = .ok b w := eqB_sound hΓ hF 10000 kt k e.1 b uk c.key w hb hk hes.1.1
    cases b with
    | true =>
      cases h
      refine ⟨c.val, c, ?_, hes.1.2.1, Nat.le_refl _, by simp, rfl, hes.1.2.2, e, by simp, rfl, rfl, hb⟩
      simp [Instr.findAsking, heq]
    | false =>
      have ih := findE_sound hF hk es ces (i + 1) r w h hes.2
      cases r with
      | none => simpa [Instr.findAsking, heq] using ih
      | some q =>
        obtain ⟨j, v, born⟩ := q
        obtain ⟨u, c', h1, h2, h3, h4, h5, h6, e', h7, h8⟩ := ih
        refine ⟨u, c', by simpa [Instr.findAsking, heq] using h1, h2, by omega, ?_, h5, h6, e', ?_, h8⟩
        · rw [show j - i = (j - (i + 1)) + 1 by omega]; simpa using h4
        · rw [show j - i = (j - (i + 1)) + 1 by omega]; simpa using h7

end

/-- The quick look-up is the slow one. -/
theorem findNow_eq {P : Program} {kt : TypeId} {d : TypeDesc} (hd : P.underlying kt = some d) (k : Value) : ∀ (es : List MapEntry) (i : Nat) (r : Option (Nat × Value)) (w : World),
    Instr.findNow d k es i = some r → (Instr.findAsking kt k es i).run P w = .ok r w
  | [], i, r, w, h => by cases h; rfl
  | e :: es, i, r, w, h => by
    unfold Instr.findNow at h
    have key : ∀ b, Instr.sameNow d k e.key = some b → (Op.equal kt k e.key).run P w = .ok b w := by
      intro b hb
      generalize e.key = ek at hb
      cases d <;> cases k <;> cases ek <;> simp only [Instr.sameNow] at hb <;> try (cases hb; done)
      · cases hb; exact run_equalIn_bool' w 9999 kt _ _ hd
      · split at hb
        · rename_i e1; subst e1; cases hb; exact run_equalIn_int w 9999 kt _ _ _ _ hd
        · cases hb
      · cases hb
        rw [beq_toListBytes]
        exact run_equalIn_string w 9999 kt _ _ hd
    cases hs : Instr.sameNow d k e.key with
    | none => rw [hs] at h; cases h
    | some b =>
      rw [hs] at h
      cases b with
      | true => cases h; simp [Instr.findAsking, key true hs]
      | false =>
        have := findNow_eq hd k es (i + 1) r w h
        simpa [Instr.findAsking, key false hs] using this

theorem findKey_of_asking {P : Program} {kt : TypeId} {d : TypeDesc} (hd : P.underlying kt = some d) {k : Value} {es : List MapEntry} {r : Option (Nat × Value)} {w : World}
    (h : (Instr.findAsking kt k es).run P w = .ok r w) : (Instr.findKey kt k es).run P w = .ok r w := by
  simp only [Instr.findKey, Sem.run_bind, run_underlying hd, Result.andThen_ok]
  cases hn : Instr.findNow d k es 0 with
  | none => exact h
  | some q =>
    have := findNow_eq (P := P) hd k es 0 q w hn
    rw [h] at this
    injection this with e1 e2
    subst e1
    rfl

end Go.Ev
