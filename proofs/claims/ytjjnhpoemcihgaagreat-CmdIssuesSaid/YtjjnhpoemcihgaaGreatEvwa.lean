/-
  The quick checks of a drawn region tell what the plain ones tell.
-/
import Derived.Test.YtjjnhpoemcihgaaGreatEvw
namespace Go.Ev

theorem bitN_eq (m i : Nat) : bitN m i = m.testBit i := by
  unfold bitN
  have h : Nat.land (Nat.shiftRight m i) 1 = m / 2 ^ i % 2 := by
    show (m >>> i) &&& 1 = _
    rw [Nat.and_one_is_mod, Nat.shiftRight_eq_div_pow]
  rw [h, beq_iff, Nat.testBit_eq_decide_div_mod_eq]

theorem getM_putM_same {d : Nat} (h : d < 576) (m : Nat) (t : T) : getM d (putM d m t) = m := by
  unfold getM putM
  rw [getT_putT_same h]; rfl
theorem getM_putM_ne {d e : Nat} (h : d ≠ e) (m : Nat) (t : T) : getM d (putM e m t) = getM d t := by
  unfold getM putM
  rw [getT_putT_ne h]
theorem putM_big {d : Nat} (h : ¬ d < 576) (m : Nat) (t : T) : putM d m t = t := by
  unfold putM putT
  have hb : Nat.blt d 576 = false := blt_false h
  rw [hb]

theorem orMasksT_spec {t : T} {i : Nat} {B : List Nat} (hB : ∀ d, d < i → B[d]? = some (getM d t)) : ∀ {ds : List Nat} {r : Nat}, orMasksT t i ds = some r → orMasks B ds = some r
  | [], r, h => by cases h; rfl
  | d :: ds, r, h => by
    obtain ⟨hb, h1⟩ := ifb_eq (show ifb (Nat.blt d i) _ none = some r from h)
    obtain ⟨q, hq, h2⟩ := onSome_eq h1
    cases h2
    have hb : d < i := by simpa using hb
    unfold orMasks
    rw [nth_eq, hB d hb]
    simp only [orMasksT_spec hB hq]

theorem masksT_spec : ∀ {l : List Oper} {i : Nat} {t : T} {R B : List Nat}, masksT l i t = some R → B.length = i → (∀ d, d < i → B[d]? = some (getM d t)) → masks l B = some (B ++ R)
  | [], i, t, R, B, h, _, _ => by cases h; simp [masks]
  | o :: l, i, t, R, B, h, hl, hB => by
    obtain ⟨hb, h1⟩ := ifb_eq (show ifb (Nat.blt i 576) _ none = some R from h)
    obtain ⟨m, hm, h2⟩ := onSome_eq h1
    obtain ⟨r, hr, h3⟩ := onSome_eq h2
    cases h3
    have hb : i < 576 := by simpa using hb
    unfold masks
    simp only [orMasksT_spec hB hm]
    have := masksT_spec (B := B ++ [m]) hr (by simp [hl]) (fun d hd => by
      by_cases e : d = i
      · subst e
        rw [getM_putM_same hb, ← hl]; simp
      · have hd : d < i + 1 := hd
        rw [getM_putM_ne e, List.getElem?_append_left (by omega)]
        exact hB d (by omega))
    rw [this]; simp

/-! ### writers and lookers -/
theorem wrT_mono : ∀ {l : List Oper} {k0 : Nat} {t : T} {d k : Nat}, (getM d t).testBit k = true → (getM d (wrT l k0 t)).testBit k = true
  | [], _, _, _, _, h => h
  | o :: l, k0, t, d, k, h => by
    unfold wrT
    cases hd : o.dst with
    | none => exact wrT_mono h
    | some e =>
      refine wrT_mono ?_
      by_cases hde : d = e
      · subst hde
        by_cases hlt : d < 576
        · rw [getM_putM_same hlt]
          show (getM d t ||| 1 <<< k0).testBit k = true
          rw [Nat.testBit_or, h]; rfl
        · rw [putM_big hlt]; exact h
      · rw [getM_putM_ne hde]; exact h
theorem one_shift (k : Nat) : (1 <<< k).testBit k = true := by
  rw [Nat.testBit_shiftLeft]; simp
theorem one_shift_iff (k j : Nat) : (1 <<< k).testBit j = decide (j = k) := by
  rw [Nat.testBit_shiftLeft]
  by_cases h : j = k
  · subst h; simp
  · rw [decide_eq_false h]
    by_cases h1 : j ≥ k
    · have : j - k ≠ 0 := by omega
      have h2 : Nat.testBit 1 (j - k) = false := by
        cases hb : Nat.testBit 1 (j - k) with
        | false => rfl
        | true => exact absurd (Nat.testBit_one_eq_true_iff_self_eq_zero.1 hb) this
      rw [h2]; simp
    · simp [h1]
theorem wrT_spec : ∀ {l : List Oper} {k0 : Nat} {t : T} {j : Nat} {o : Oper} {d : Nat}, l[j]? = some o → o.dst = some d → d < 576 → (getM d (wrT l k0 t)).testBit (k0 + j) = true
  | [], _, _, _, _, _, h, _, _ => by simp at h
  | x :: l, k0, t, 0, o, d, h, hd, hlt => by
    simp at h; subst h
    unfold wrT
    rw [hd]
    refine wrT_mono ?_
    rw [getM_putM_same hlt, Nat.add_zero]
    show (getM d t ||| 1 <<< k0).testBit k0 = true
    rw [Nat.testBit_or, one_shift]; simp
  | x :: l, k0, t, j + 1, o, d, h, hd, hlt => by
    unfold wrT
    have e : k0 + (j + 1) = Nat.succ k0 + j := by show _ = k0 + 1 + j; omega
    rw [e]
    cases hx : x.dst with
    | none => exact wrT_spec (by simpa using h) hd hlt
    | some c => exact wrT_spec (by simpa using h) hd hlt

theorem lookM_bit {t : T} {d k : Nat} (h : (getM d t).testBit k = true) : ∀ {l : List Nat}, d ∈ l → (lookM t l).testBit k = true
  | [], hd => by simp at hd
  | e :: l, hd => by
    show (getM e t ||| lookM t l).testBit k = true
    rw [Nat.testBit_or]
    rcases List.mem_cons.1 hd with rfl | hd
    · rw [h]; rfl
    · rw [lookM_bit h hd]; simp

theorem pairOk_of {A : List Nat} {i k : Nat} {li : List Nat} {di : Option Tmp} {d : Tmp} (h : d ∈ di.toList ++ li → i = k ∨ bitAt A i k = true) : pairOk A i li di k (some d) = true := by
  have fin : (i = k ∨ bitAt A i k = true) → ifb (Nat.beq i k) true (ifb (bitAt A i k) true (bitAt A k i)) = true := by
    intro h
    rcases h with h | h
    · subst h
      have : Nat.beq i i = true := by rw [beq_iff]; simp
      rw [this]; rfl
    · rw [h]; cases Nat.beq i k <;> rfl
  unfold pairOk
  simp only
  cases hh : has d li with
  | true => exact fin (h (List.mem_append_right _ ((has_iff d li).1 hh)))
  | false =>
    cases di with
    | none => rfl
    | some x =>
      show ifb (Nat.beq x d) _ true = true
      cases hx : Nat.beq x d with
      | false => rfl
      | true =>
        rw [beq_iff] at hx
        have hx : x = d := by simpa using hx
        subst hx
        exact fin (h (by simp))
theorem checkC_step {ops : List Oper} {A : List Nat} {hs : List Bool} {c : Nat} {C1 C2 : List Nat} {o : Oper} (ho : ops[c]? = some o) (hnot : has c C1 = false) (hdeps : ((depsOf o).all fun d => has d C1) = true)
    (hheavy : hs[c]? = some false ∨ (C2.all fun k => bitAt A k c) = true) (hrest : checkC ops A hs (C1 ++ [c]) C2 = true) : checkC ops A hs C1 (c :: C2) = true := by
  unfold checkC
  rw [nth_eq, nth_eq, ho]
  simp only [hnot, hdeps, hrest]
  rcases hheavy with h | h
  · rw [h]; rfl
  · rcases hx : hs[c]? with _ | b
    · simp only [h]; rfl
    · cases b
      · rfl
      · simp only [h]; rfl

theorem pairsK_of_mask {A : List Nat} {ops : List Oper} {t : T} (hw : ∀ (k : Nat) (o : Oper) (d : Nat), ops[k]? = some o → o.dst = some d → (getM d t).testBit k = true)
    {i a : Nat} (ha : A[i]? = some a) {li : List Nat} {di : Option Tmp} (hm : Nat.beq (Nat.land (lookM t (di.toList ++ li)) (Nat.lor a (Nat.shiftLeft 1 i))) (lookM t (di.toList ++ li)) = true) :
    ∀ {l : List Oper} {k0 : Nat}, (∀ (j : Nat) (o : Oper), l[j]? = some o → ops[k0 + j]? = some o) → pairsK A i li di l k0 = true
  | [], _, _ => rfl
  | o :: l, k0, hl => by
    have h0 := hl 0 o rfl
    rw [Nat.add_zero] at h0
    have rest : pairsK A i li di l (Nat.succ k0) = true := pairsK_of_mask hw ha hm fun j x hj => by
      have := hl (j + 1) x (by simpa using hj)
      rw [← this]; congr 1; show k0 + 1 + j = _; omega
    have hp : pairOk A i li di k0 o.dst = true := by
      cases hd : o.dst with
      | none => rfl
      | some d =>
        refine pairOk_of fun hmem => ?_
        have hbit := lookM_bit (hw k0 o d h0 hd) hmem
        rw [beq_iff] at hm
        have hm : lookM t (di.toList ++ li) &&& (a ||| 1 <<< i) = lookM t (di.toList ++ li) := by simpa using hm
        rw [← hm, Nat.testBit_and, Nat.testBit_or, one_shift_iff] at hbit
        simp only [Bool.and_eq_true, Bool.or_eq_true, decide_eq_true_eq] at hbit
        rcases hbit.2 with h | h
        · right; unfold bitAt; rw [nth_eq, ha]; exact h
        · left; exact h.symm
    unfold pairsK
    rw [hp]; exact rest

theorem pairsF_spec {A : List Nat} {ops : List Oper} {t : T} (hw : ∀ (k : Nat) (o : Oper) (d : Nat), ops[k]? = some o → o.dst = some d → (getM d t).testBit k = true) :
    ∀ {l : List Oper} {as : List Nat} {i : Nat}, pairsF A ops t l as i = true → (∀ (j a : Nat), as[j]? = some a → A[i + j]? = some a) → pairsI A ops l i = true
  | [], _, _, _, _ => rfl
  | _ :: _, [], _, h, _ => by cases h
  | o :: l, a :: as, i, h, ha => by
    obtain ⟨h1, h2⟩ := ifb_and (show ifb _ (pairsF A ops t l as (Nat.succ i)) false = true from h)
    have ha0 := ha 0 a rfl
    rw [Nat.add_zero] at ha0
    have hk : pairsK A i (looksN ops o) o.dst ops 0 = true := by
      cases hm : Nat.beq (Nat.land (lookM t (o.dst.toList ++ looksN ops o)) (Nat.lor a (Nat.shiftLeft 1 i))) (lookM t (o.dst.toList ++ looksN ops o)) with
      | true => exact pairsK_of_mask hw ha0 hm fun j x hj => by rw [Nat.zero_add]; exact hj
      | false =>
        simp only [hm] at h1
        exact h1
    unfold pairsI
    rw [hk]
    exact pairsF_spec hw h2 fun j b hj => by
      have := ha (j + 1) b (by simpa using hj)
      rw [← this]; congr 1; show i + 1 + j = _; omega

/-! ### the order -/
theorem ents_spec {P : Program} {Γ : Tab} : ∀ {l : List Oper} {as : List Nat} {i : Nat} {e : Ent}, e ∈ ents P Γ l as i → ∃ (j : Nat) (o : Oper) (a : Nat), l[j]? = some o ∧ as[j]? = some a ∧ e = ⟨i + j, depM (depsOf o), a, (opB P Γ o).heavy⟩
  | [], as, i, e, h => by unfold ents at h; cases h
  | o :: l, [], i, e, h => by unfold ents at h; cases h
  | o :: l, a :: as, i, e, h => by
    rcases List.mem_cons.1 (show e ∈ _ :: ents P Γ l as (Nat.succ i) from h) with rfl | h
    · exact ⟨0, o, a, rfl, rfl, rfl⟩
    · obtain ⟨j, o', a', h1, h2, h3⟩ := ents_spec h
      refine ⟨j + 1, o', a', by simpa using h1, by simpa using h2, ?_⟩
      rw [h3]; congr 1; show i + 1 + j = _; omega
theorem pickE_mem {want : Bool} {done : Nat} : ∀ {es : List Ent} {e : Ent}, pickE want done es = some e → e ∈ es
  | [], _, h => by cases h
  | x :: l, e, h => by
    unfold pickE at h
    cases h1 : bitN done x.i with
    | true => rw [h1] at h; exact List.mem_cons_of_mem _ (pickE_mem h)
    | false =>
      rw [h1] at h
      have h : ifb (ifb want x.heavy (!x.heavy)) (ifb (Nat.beq (Nat.land x.dm done) x.dm) (some x) (pickE want done l)) (pickE want done l) = some e := h
      cases h2 : ifb want x.heavy (!x.heavy) with
      | false => rw [h2] at h; exact List.mem_cons_of_mem _ (pickE_mem h)
      | true =>
        rw [h2] at h
        have h : ifb (Nat.beq (Nat.land x.dm done) x.dm) (some x) (pickE want done l) = some e := h
        cases h3 : Nat.beq (Nat.land x.dm done) x.dm with
        | false => rw [h3] at h; exact List.mem_cons_of_mem _ (pickE_mem h)
        | true => rw [h3] at h; cases h; simp
theorem canonE_mem {es : List Ent} : ∀ {n done : Nat} {e : Ent}, e ∈ canonE es n done → e ∈ es
  | 0, _, _, h => by cases h
  | n + 1, done, e, h => by
    unfold canonE at h
    cases h1 : pickE false done es with
    | some x =>
      rw [h1] at h
      rcases List.mem_cons.1 (show e ∈ x :: canonE es n (Nat.lor done (Nat.shiftLeft 1 x.i)) from h) with rfl | h
      · exact pickE_mem h1
      · exact canonE_mem h
    | none =>
      rw [h1] at h
      cases h2 : pickE true done es with
      | some x =>
        rw [h2] at h
        rcases List.mem_cons.1 (show e ∈ x :: canonE es n (Nat.lor done (Nat.shiftLeft 1 x.i)) from h) with rfl | h
        · exact pickE_mem h2
        · exact canonE_mem h
      | none => rw [h2] at h; cases h

theorem depM_bit : ∀ {l : List Nat} {d : Nat}, d ∈ l → (depM l).testBit d = true
  | [], _, h => by simp at h
  | e :: l, d, h => by
    show (1 <<< e ||| depM l).testBit d = true
    rw [Nat.testBit_or]
    rcases List.mem_cons.1 h with rfl | h
    · rw [one_shift]; rfl
    · rw [depM_bit h]; simp
theorem allBits_spec {c : Nat} : ∀ {l : List Ent}, allBits c l = true → ∀ e ∈ l, e.a.testBit c = true
  | [], _, e, h => by simp at h
  | x :: l, h, e, he => by
    obtain ⟨h1, h2⟩ := ifb_and h
    rcases List.mem_cons.1 he with rfl | he
    · rw [bitN_eq] at h1; exact h1
    · exact allBits_spec h2 e he

theorem checkF_spec {ops : List Oper} {A : List Nat} {hs : List Bool} {full : Nat} (hfull : ∀ i, i < ops.length → full.testBit i = true) :
    ∀ {L : List Ent} {done : Nat} {C1 : List Nat}, checkF full done L = true → (∀ e ∈ L, ∃ o, ops[e.i]? = some o ∧ e.dm = depM (depsOf o) ∧ A[e.i]? = some e.a ∧ hs[e.i]? = some e.heavy) →
      (∀ j, done.testBit j = true ↔ j ∈ C1) → checkC ops A hs C1 (L.map Ent.i) = true
  | [], done, C1, h, _, hd => by
    have h : Nat.beq done full = true := h
    rw [beq_iff] at h
    have h : done = full := by simpa using h
    show ((List.range ops.length).all fun i => has i C1) = true
    rw [List.all_eq_true]
    intro i hi
    rw [has_iff, ← hd, h]
    exact hfull i (by simpa using hi)
  | e :: L, done, C1, h, hg, hd => by
    obtain ⟨o, ho, hdm, ha, hh⟩ := hg e (by simp)
    have h : ifb (bitN done e.i) false (ifb (Nat.beq (Nat.land e.dm done) e.dm) (ifb (ifb e.heavy (allBits e.i L) true) (checkF full (Nat.lor done (Nat.shiftLeft 1 e.i)) L) false) false) = true := h
    cases hb : bitN done e.i with
    | true => rw [hb] at h; cases h
    | false =>
      rw [hb] at h
      obtain ⟨h1, h2⟩ := ifb_and (show ifb _ _ false = true from h)
      obtain ⟨h3, h4⟩ := ifb_and h2
      rw [bitN_eq] at hb
      have hnot : has e.i C1 = false := by
        cases hx : has e.i C1 with
        | false => rfl
        | true => rw [has_iff, ← hd, hb] at hx; cases hx
      have hdeps : ((depsOf o).all fun d => has d C1) = true := by
        rw [List.all_eq_true]
        intro d hdm'
        rw [has_iff, ← hd]
        rw [beq_iff] at h1
        have h1 : e.dm &&& done = e.dm := by simpa using h1
        have hbit := depM_bit hdm'
        rw [← hdm, ← h1, Nat.testBit_and] at hbit
        simp only [Bool.and_eq_true] at hbit
        exact hbit.2
      have hheavy : hs[e.i]? = some false ∨ ((L.map Ent.i).all fun k => bitAt A k e.i) = true := by
        cases hv : e.heavy with
        | false => left; rw [hh, hv]
        | true =>
          right
          rw [hv] at h3
          rw [List.all_eq_true]
          intro k hk
          obtain ⟨x, hx, rfl⟩ := List.mem_map.1 hk
          obtain ⟨_, _, _, hxa, _⟩ := hg x (by simp [hx])
          unfold bitAt
          rw [nth_eq, hxa]
          exact allBits_spec h3 x hx
      have hrest := checkF_spec hfull (C1 := C1 ++ [e.i]) h4 (fun x hx => hg x (by simp [hx])) (fun j => by
        show (done ||| 1 <<< e.i).testBit j = true ↔ _
        rw [Nat.testBit_or, one_shift_iff, Bool.or_eq_true, hd, decide_eq_true_eq, List.mem_append]; simp)
      exact checkC_step ho hnot hdeps hheavy hrest

theorem dstsOk_spec {n : Nat} : ∀ {l : List Oper}, dstsOk n l = true → ∀ o ∈ l, ∀ d, o.dst = some d → d < n ∧ d < 576
  | [], _, o, h, _, _ => by simp at h
  | x :: l, h, o, ho, d, hd => by
    obtain ⟨h1, h2⟩ := ifb_and h
    rcases List.mem_cons.1 ho with rfl | ho
    · rw [hd] at h1
      obtain ⟨h3, h4⟩ := ifb_and (show ifb (Nat.blt d n) (Nat.blt d 576) false = true from h1)
      rw [Nat.blt_eq] at h3 h4
      exact ⟨h3, h4⟩
    · exact dstsOk_spec h2 o ho d hd

theorem masks_length : ∀ {l : List Oper} {B A : List Nat}, masks l B = some A → A.length = B.length + l.length
  | [], B, A, h => by cases h; simp
  | x :: l, B, A, h => by
    unfold masks at h
    cases hm : orMasks B (depsOf x) with
    | none => simp only [hm] at h; cases h
    | some m => simp only [hm] at h; have := masks_length h; simp at this ⊢; omega
end Go.Ev
