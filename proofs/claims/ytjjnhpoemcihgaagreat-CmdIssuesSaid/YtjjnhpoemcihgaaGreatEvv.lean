/-
  Operations in whatever order: each step.
-/
import Derived.Test.YtjjnhpoemcihgaaGreatEvu
namespace Go.Ev

theorem valAt_skip {t0 : T} {dst : Nat → Option Tmp} {X Y : List (Nat × AV)} {e : Nat × AV} {d : Nat} (hd : dst e.1 ≠ some d) : valAt t0 dst (X ++ e :: Y) d = valAt t0 dst (X ++ Y) d := by
  unfold valAt; rw [List.foldl_append, List.foldl_append, List.foldl_cons, if_neg hd]
theorem valAt_snoc {t0 : T} {dst : Nat → Option Tmp} {X : List (Nat × AV)} {e : Nat × AV} {d : Nat} : valAt t0 dst (X ++ [e]) d = if dst e.1 = some d then e.2 else valAt t0 dst X d := by
  unfold valAt; rw [List.foldl_append]; rfl

/-- Where a list with one more at its end is cut. -/
theorem cut_snoc {α : Type} {C X Y : List α} {x e : α} (h : C ++ [x] = X ++ e :: Y) : (∃ Y', C = X ++ e :: Y' ∧ Y = Y' ++ [x]) ∨ (C = X ∧ e = x ∧ Y = []) := by
  rcases List.eq_nil_or_concat Y with rfl | ⟨Y', y, rfl⟩
  · have := List.append_inj' h rfl
    right; exact ⟨this.1, by simpa using this.2.symm, rfl⟩
  · rw [List.concat_eq_append, ← List.cons_append, ← List.append_assoc] at h
    have := List.append_inj' h rfl
    left
    exact ⟨Y', this.1, by rw [List.concat_eq_append, (by simpa using this.2 : x = y)]⟩

/-- What is known of a drawn region ahead of the run. -/
structure Drawn (P : Program) (Γ : Tab) (ops : Array Oper) (A : List Nat) (hs : List Bool) (n : Nat) : Prop where
  hA : masks ops.toList [] = some A
  hP : pairsI A ops.toList ops.toList 0 = true
  hD : ∀ (i : Nat) (o : Oper) (d : Nat), ops[i]? = some o → o.dst = some d → d < n ∧ d < 576
  hH : ∀ (i : Nat) (o : Oper), ops[i]? = some o → hs[i]? = some (opB P Γ o).heavy

section
variable {P : Program} {Γ : Tab} (hΓ : TabOk P Γ) {φ : Phi} {base : Nat} {σ : St} {w : World} {ops : Array Oper} {A : List Nat} {hs : List Bool} {n : Nat}
variable {call : Call} {p : TS → Prop} {φ0 : Phi} {σ0 : St} {w0 : World} {t0 : T} {ds : List Deferred} {C1 : List (Nat × AV)} {C2 : List Nat} {listed : Array Bool} {t : T} {l : List Pend} {ids : List (Nat × Nat)} {a : Act}

theorem put_at {o : Oper} {i : Nat} (hD : ∀ d, o.dst = some d → d < n ∧ d < 576) (ho : ops[i]? = some o) (h : ∀ d, (getT d).run t = valAt t0 (dstOf ops) C1 d) (v : AV) :
    ∀ d, (getT d).run ((putB n o.dst).run v t) = valAt t0 (dstOf ops) (C1 ++ [(i, v)]) d := by
  intro d
  rw [valAt_snoc]
  have hdo : dstOf ops i = o.dst := by simp [dstOf, ho]
  show _ = if dstOf ops i = some d then v else _
  rw [hdo]
  cases hd : o.dst with
  | none => rw [if_neg (by simp)]; exact h d
  | some d' =>
    obtain ⟨h1, h2⟩ := hD d' hd
    rw [putB_lt h1]
    by_cases e : d' = d
    · subst e; rw [if_pos rfl, getT_putT_same h2]
    · rw [if_neg (by simpa using e), getT_putT_ne (Ne.symm e)]; exact h d

theorem getD_put {o : Oper} {u : Value} {d : Nat} (hn : a.tmps.size = n) (hD : ∀ d, o.dst = some d → d < n ∧ d < 576) : (a.put o.dst u).tmps.getD d undef = if o.dst = some d then u else a.tmps.getD d undef := by
  cases hd : o.dst with
  | none => rw [if_neg (by simp)]; rfl
  | some d' =>
    obtain ⟨h1, _⟩ := hD d' hd
    by_cases e : d' = d
    · subst e
      rw [if_pos rfl]
      simp [Act.put, Array.getD_eq_getD_getElem?, hn, h1]
    · rw [if_neg (by simpa using e)]
      simp [Act.put, Array.getD_eq_getD_getElem?, Array.getElem?_setIfInBounds_ne e]

theorem on_set {i k : Nat} (hi : i < listed.size) : on (listed.setIfInBounds i true) k = if k = i then true else on listed k := by
  unfold on
  by_cases e : k = i
  · subst e; simp [hi]
  · rw [if_neg e]; simp [Array.getElem?_setIfInBounds_ne (Ne.symm e)]

/-- The head of what is left: done by the evaluator, or not wanted; it may be that it learnt a fact ahead of it. -/
theorem drawB_cons (hmr : MR base φ σ w) {i : Nat} {C3 : List Nat} {o : Oper} (ho : ops[i]? = some o) (h : R.All p ((drawB P Γ n ops.toList A (i :: C3)).run call t σ l)) :
    ∃ m τ, A[i]? = some m ∧ Stp base φ σ w φ τ w ∧ (τ = σ ∨ recheck 0 τ l = true) ∧ ((Unwanted ops φ.ρ o t ∧ R.All p ((drawB P Γ n ops.toList A C3).run call ((putB n o.dst).run (.t []) t) τ l)) ∨
      (Wants ops φ.ρ o t ∧ R.All p ((draw1B P Γ n i m o (drawB P Γ n ops.toList A C3)).run call t τ l))) := by
  unfold drawB at h
  have ho' : nth i ops.toList = some o := by rw [nth_eq]; simpa using ho
  simp only [ho'] at h
  cases hm : nth i A with
  | none => simp only [hm] at h; exact h.elim
  | some m =>
    simp only [hm] at h
    refine ⟨m, ?_⟩
    have hAm : A[i]? = some m := by rw [nth_eq] at hm; exact hm
    cases hg : o.guard with
    | none => simp only [hg] at h; exact ⟨σ, hAm, Stp.refl hmr, .inl rfl, .inr ⟨(fun j want hj => by rw [hg] at hj; cases hj), h⟩⟩
    | some gw =>
      obtain ⟨j, want⟩ := gw
      simp only [hg] at h
      cases hj : nth j ops.toList with
      | none => simp only [hj] at h; exact h.elim
      | some g =>
        simp only [hj] at h
        have hgj : ops[j]? = some g := by rw [nth_eq] at hj; simpa using hj
        cases hgd : g.dst with
        | none => simp only [hgd] at h; exact h.elim
        | some d =>
          simp only [hgd, Bx.use_eq] at h
          cases hv : (getT d).run t with
          | a l => rw [hv] at h; exact h.elim
          | t tl => rw [hv] at h; exact ⟨σ, hAm, Stp.refl hmr, .inl rfl, .inl ⟨⟨j, want, g, d, hg, hgj, hgd, .inr ⟨tl, hv⟩⟩, h⟩⟩
          | c x =>
            rw [hv] at h
            obtain ⟨b, τ, hb, hst, hor⟩ := onBf_told (k' := fun b σ => ifb (recheck 0 σ l) (ifb (ifb want b (!b)) ((draw1B P Γ n i m o (drawB P Γ n ops.toList A C3)).run call t σ l) ((drawB P Γ n ops.toList A C3).run call ((putB n o.dst).run (.t []) t) σ l)) (.err "order"))
              (show R.All p ((AV.c x).onB (fun b => ifb (ifb want b (!b)) ((draw1B P Γ n i m o (drawB P Γ n ops.toList A C3)).run call t σ l) ((drawB P Γ n ops.toList A C3).run call ((putB n o.dst).run (.t []) t) σ l)) (forkB σ (AV.c x) "guard" _)) from h) hmr
            have h1 : (τ = σ ∨ recheck 0 τ l = true) ∧ R.All p (ifb (ifb want b (!b)) ((draw1B P Γ n i m o (drawB P Γ n ops.toList A C3)).run call t τ l) ((drawB P Γ n ops.toList A C3).run call ((putB n o.dst).run (.t []) t) τ l)) := by
              rcases hor with h2 | ⟨h2, h3⟩
              · obtain ⟨h4, h5⟩ := R.All.ifb h2
                exact ⟨.inr h4, h5⟩
              · subst h3; exact ⟨.inl rfl, h2⟩
            obtain ⟨hre, h1⟩ := h1
            refine ⟨τ, hAm, hst, hre, ?_⟩
            by_cases e : b = want
            · subst e
              refine .inr ⟨fun j' want' hj' => ?_, by cases b <;> simpa [ifb] using h1⟩
              rw [hg] at hj'; cases hj'
              exact ⟨g, d, hgj, hgd, by rw [hv]; exact hb⟩
            · refine .inl ⟨⟨j, want, g, d, hg, hgj, hgd, .inl ?_⟩, by cases b <;> cases want <;> first | exact absurd rfl e | simpa [ifb] using h1⟩
              rw [hv]
              have : b = !want := by cases b <;> cases want <;> first | exact absurd rfl e | rfl
              rw [← this]; exact hb

/-- The evaluator goes on by one that the model has not done. -/
theorem Sim.snoc {i : Nat} (D : Drawn P Γ ops A hs n) (s : Sim P Γ ops A hs n call p base φ0 σ0 w0 t0 ds C1 (i :: C2) listed φ t σ l ids a w) {o : Oper} (ho : ops[i]? = some o) (hi : on listed i = false) {v : AV} {σ' : St} {l' : List Pend} {ids' : List (Nat × Nat)}
    (hev : R.All p ((drawB P Γ n ops.toList A C2).run call ((putB n o.dst).run v t) σ' l')) (hst : Stp base φ0 σ0 w0 φ σ' w) (_ : ∀ x ∈ l, x ∈ l') (_ : ∀ x ∈ ids, x ∈ ids') (hid1 : ids'.Pairwise fun a b => a.2 ≠ b.2) (hid2 : ∀ x ∈ ids', x.2 + 1 < σ'.next)
    (hw : Wait P Γ ops φ σ0 t0 l' ids' C1 (i, v) o σ')
    (hkeep : ∀ X e Y, C1 = X ++ e :: Y → on listed e.1 = false → ∀ oe, Wait P Γ ops φ σ0 t0 l ids X e oe σ → Wait P Γ ops φ σ0 t0 l' ids' X e oe σ') :
    Sim P Γ ops A hs n call p base φ0 σ0 w0 t0 ds (C1 ++ [(i, v)]) C2 listed φ ((putB n o.dst).run v t) σ' l' ids' a w := by
  obtain ⟨o', ho', hnot, hdeps, _, hchk⟩ := checkC_cons s.chk
  rw [ho] at ho'; cases ho'
  refine ⟨by rw [List.map_append]; exact hchk, fun X e Y hC => ?_, fun k hk => by rw [List.map_append]; exact List.mem_append_left _ (s.sub k hk), s.closed, hev, hst, put_at (D.hD i o · ho) ho s.tv v, fun d => ?_, s.size, s.defers, s.lsize, hid1, hid2, fun X e Y hC hL => ?_⟩
  · rcases cut_snoc hC with ⟨Y', h1, _⟩ | ⟨rfl, rfl, _⟩
    · exact s.topo X e Y' h1
    · exact ⟨hnot, o, ho, hdeps⟩
  · rw [List.filter_append, List.filter_cons_of_neg (by simpa using hi)]
    simpa using s.av d
  · rcases cut_snoc hC with ⟨Y', h1, _⟩ | ⟨rfl, rfl, _⟩
    · obtain ⟨oe, hoe, hwe⟩ := s.wait X e Y' h1 hL
      exact ⟨oe, hoe, hkeep X e Y' h1 hL oe hwe⟩
    · exact ⟨o, ho, hw⟩

theorem Wait.keep {ψ : Phi} (hρ : ψ.ρ = φ.ρ) {X : List (Nat × AV)} {e : Nat × AV} {oe : Oper} {σ' : St} {l' : List Pend} {ids' : List (Nat × Nat)} (hw : Wait P Γ ops φ σ0 t0 l ids X e oe σ) (hl : ∀ x ∈ l, x ∈ l') (hids : ∀ x ∈ ids, x ∈ ids') (hn : σ.next ≤ σ'.next)
    (hr : ∀ g v, (⟨e.1, g, v⟩ : Pend) ∈ l → (∃ v', g σ = some v' ∧ Finer φ.ρ v' v) → ∃ v', g σ' = some v' ∧ Finer φ.ρ v' v)
    (hg : ∀ id, (e.1, id) ∈ ids → id + 1 < σ.next → φ id = none → (∀ l, hget σ id ≠ .facts l) → ψ id = none ∧ (hget σ' id = hget σ id ∨ hget σ' id = .none)) : Wait P Γ ops ψ σ0 t0 l' ids' X e oe σ' := by
  cases hw with
  | pure f t h1 h2 h3 h4 => exact .pure f t h1 h2 (by rw [hρ]; exact h3) h4
  | read f t h1 h2 h3 h4 h5 => exact .read f t h1 h2 (by rw [hρ]; exact h3) (by rw [hρ]; exact hr _ _ h5 h4) (hl _ h5)
  | new f t blk mk id h1 h2 h3 h4 h5 h6 h7 h8 h9 h10 =>
    obtain ⟨g1, g2⟩ := hg id h6 h10 h7 (fun l e => by
      rcases h9 with h9 | h9
      · rw [h9] at e; exact opB_new_plain h1 h4 l e
      · rw [h9] at e; cases e)
    refine .new f t blk mk id h1 h2 (by rw [hρ]; exact h3) h4 h5 (hids _ h6) g1 h8 ?_ (by omega)
    rcases g2 with g2 | g2
    · rw [g2]; exact h9
    · exact .inr g2
  | skip t h2 h3 h4 => exact .skip t h2 (by rw [hρ]; exact h3) h4

/-- Behind a fact that was learnt. -/
theorem Wait.forked {X : List (Nat × AV)} {e : Nat × AV} {oe : Oper} {τ : St} (hw : Wait P Γ ops φ σ0 t0 l ids X e oe σ) {C : List (Nat × AV)} {C' : List Nat} (s : Sim P Γ ops A hs n call p base φ0 σ0 w0 t0 ds C C' listed φ t σ l ids a w)
    (hst : Stp base φ σ w φ τ w) (hre : τ = σ ∨ recheck 0 τ l = true) : Wait P Γ ops φ σ0 t0 l ids X e oe τ := by
  refine hw.keep rfl (fun _ h => h) (fun _ h => h) hst.next (fun g v hg h => ?_) fun id hid hlt hn hnf => ⟨hn, hst.ghost id hlt hn hnf⟩
  rcases hre with rfl | hre
  · exact h
  · rcases recheck_spec hst.mr.factsHold hre _ hg with h' | h'
    · simp at h'
    · exact h'

theorem mem_cut {α : Type} {C X Y : List α} {e : α} (h : C = X ++ e :: Y) : e ∈ C := by rw [h]; simp

/-- The evaluator goes on until it has done what the model does next, or comes to it. -/
theorem advance (D : Drawn P Γ ops A hs n) {i : Nat} {o : Oper} (ho : ops[i]? = some o) (hi : on listed i = false) (hdl : ∀ d ∈ depsOf o, on listed d = true) :
    ∀ (C2 : List Nat) (C1 : List (Nat × AV)) (t : T) (σ : St) (l : List Pend) (ids : List (Nat × Nat)), Sim P Γ ops A hs n call p base φ0 σ0 w0 t0 ds C1 C2 listed φ t σ l ids a w →
    ∃ C1' C2' t' σ' l' ids', Sim P Γ ops A hs n call p base φ0 σ0 w0 t0 ds C1' C2' listed φ t' σ' l' ids' a w ∧ (i ∈ C1'.map (·.1) ∨
      ∃ C3 m τ, C2' = i :: C3 ∧ A[i]? = some m ∧ Wants ops φ.ρ o t' ∧ (opB P Γ o).heavy = true ∧ R.All p ((draw1B P Γ n i m o (drawB P Γ n ops.toList A C3)).run call t' τ l') ∧ Stp base φ σ' w φ τ w ∧ (τ = σ' ∨ recheck 0 τ l' = true))
  | [], C1, t, σ, l, ids, s => by
    refine ⟨C1, [], t, σ, l, ids, s, .inl ?_⟩
    rcases checkC_all s.chk i (Array.getElem?_eq_some_iff.1 ho).1 with h | h
    · exact h
    · cases h
  | c :: C3, C1, t, σ, l, ids, s => by
    by_cases hin : i ∈ C1.map (·.1)
    · exact ⟨C1, c :: C3, t, σ, l, ids, s, .inl hin⟩
    obtain ⟨oc, hoc, hnot, hdeps, hheavy, hchk⟩ := checkC_cons s.chk
    have hcl : on listed c = false := by
      cases h : on listed c with
      | false => rfl
      | true => exact absurd (s.sub c h) hnot
    obtain ⟨m, τ, hm, hfork, hre0, hcase⟩ := drawB_cons s.stp.mr hoc s.ev
    have same : ∀ X e Y, C1 = X ++ e :: Y → on listed e.1 = false → ∀ oe, Wait P Γ ops φ σ0 t0 l ids X e oe σ → Wait P Γ ops φ σ0 t0 l ids X e oe τ := fun X e Y hC hL oe hw => hw.forked s hfork hre0
    have idsLt : ∀ x ∈ ids, x.2 + 1 < τ.next := fun x hx => Nat.lt_of_lt_of_le (s.idsLt x hx) hfork.next
    have stp := s.stp.trans hfork
    have go := advance D ho hi hdl C3
    rcases hcase with ⟨hu, hev⟩ | ⟨hw, hev⟩
    · exact go _ _ _ _ _ (s.snoc D hoc hcl hev stp (fun _ h => h) (fun _ h => h) s.idsP idsLt (.skip t s.tv hu rfl) same)
    · have key : (opB P Γ oc).heavy = true → ∃ C1' C2' t' σ' l' ids', Sim P Γ ops A hs n call p base φ0 σ0 w0 t0 ds C1' C2' listed φ t' σ' l' ids' a w ∧ (i ∈ C1'.map (·.1) ∨
          ∃ C3 m τ, C2' = i :: C3 ∧ A[i]? = some m ∧ Wants ops φ.ρ o t' ∧ (opB P Γ o).heavy = true ∧ R.All p ((draw1B P Γ n i m o (drawB P Γ n ops.toList A C3)).run call t' τ l') ∧ Stp base φ σ' w φ τ w ∧ (τ = σ' ∨ recheck 0 τ l' = true)) := by
        intro hh
        by_cases hci : c = i
        · subst hci
          rw [ho] at hoc; cases hoc
          exact ⟨C1, c :: C3, t, σ, l, ids, s, .inr ⟨C3, m, τ, rfl, hm, hw, hh, hev, hfork, hre0⟩⟩
        · exfalso
          rcases hheavy with h | h
          · rw [D.hH c oc hoc, hh] at h; cases h
          · have hiC : i ∈ C3 := by
              rcases checkC_all s.chk i (Array.getElem?_eq_some_iff.1 ho).1 with h | h
              · exact absurd h hin
              · rcases List.mem_cons.1 h with h | h
                · exact absurd h.symm hci
                · exact h
            have := bit_closed D.hA (L := fun k => on listed k = true) s.closed ho hdl (h i hiC)
            rw [hcl] at this; cases this
      unfold draw1B at hev
      cases hop : opB P Γ oc with
      | p f =>
        simp only [hop, Bx.use_eq] at hev
        obtain ⟨v, hv, hev⟩ := R.All.onSome hev
        exact go _ _ _ _ _ (s.snoc D hoc hcl hev stp (fun _ h => h) (fun _ h => h) s.idsP idsLt (.pure f t hop s.tv hw hv) same)
      | q f =>
        simp only [hop, Bx.use_eq] at hev
        obtain ⟨v, hv, hev⟩ := R.All.onSome hev
        refine go _ _ _ _ _ (s.snoc D hoc hcl hev stp (fun x h => by simp [h]) (fun _ h => h) s.idsP idsLt (.read f t hop s.tv hw ⟨v, hv, .inl rfl⟩ (by simp)) fun X e Y hC hL oe hwt => ?_)
        exact (same X e Y hC hL oe hwt).keep rfl (fun x h => by simp [h]) (fun _ h => h) (Nat.le_refl _) (fun _ _ _ h => h) fun id _ _ h _ => ⟨h, .inl rfl⟩
      | n f =>
        simp only [hop, Bx.use_eq] at hev
        obtain ⟨⟨blk, mk⟩, hv, hev⟩ := R.All.onSome hev
        obtain ⟨⟨v, σ'⟩, hb, hev⟩ := R.All.onSome hev
        obtain ⟨k, hk1, hk2, he⟩ := newBlk_some hb
        cases he
        obtain ⟨hre, hev⟩ := R.All.ifb (show R.All p (ifb _ _ (.err "order")) from hev)
        have hgh := stp.mr.ghost hk1 hk2 blk (fun l e => absurd e (opB_new_plain hop hv l)) (fun l e => absurd e (opB_new_noperm hop hv l))
        have hfr : φ k = none := stp.mr.fresh k (by omega)
        refine go _ _ _ _ ((c, k) :: ids) (s.snoc D hoc hcl hev (stp.trans hgh) (fun _ h => h) (fun x h => by simp [h]) ?_ ?_ (.new f t blk mk k hop s.tv hw hv rfl (by simp) hfr (by have := stp.next; omega) (.inl ?_) (by simp)) fun X e Y hC hL oe hwt => ?_)
        · refine List.Pairwise.cons (fun x hx => ?_) s.idsP
          have := idsLt x hx
          show k ≠ x.2
          omega
        · intro x hx
          rcases List.mem_cons.1 hx with rfl | hx
          · simp
          · have := idsLt x hx; simp; omega
        · rw [hget_mk, getH_hput_same hk2]
        · refine (same X e Y hC hL oe hwt).keep rfl (fun _ h => h) (fun x h => by simp [h]) (by simp; omega) (fun g v hg h => ?_) fun id _ hlt h _ => ⟨h, .inl ?_⟩
          · rcases recheck_spec (stp.trans hgh).mr.factsHold hre _ hg with h' | h'
            · simp at h'
            · exact h'
          · rw [hget_mk, hget_eq, getH_hput_ne (by omega)]
      | w f => exact key (by rw [hop]; rfl)
      | c f => exact key (by rw [hop]; rfl)
      | bad s => simp only [hop] at hev; exact hev.elim
end
end Go.Ev
