/-
  Operations in whatever order: all of them.
-/
import Derived.Test.YtjjnhpoemcihgaaGreatEvv
namespace Go.Ev

section
variable {P : Program} {Γ : Tab} (hΓ : TabOk P Γ) {φ : Phi} {base : Nat} {σ : St} {w : World} {ops : Array Oper} {A : List Nat} {hs : List Bool} {n : Nat}
variable {call : Call} {p : TS → Prop} {φ0 : Phi} {σ0 : St} {w0 : World} {t0 : T} {ds : List Deferred} {C1 : List (Nat × AV)} {C2 : List Nat} {listed : Array Bool} {t : T} {l : List Pend} {ids : List (Nat × Nat)} {a : Act}

theorem Sim.agreeAt (D : Drawn P Γ ops A hs n) (s : Sim P Γ ops A hs n call p base φ0 σ0 w0 t0 ds C1 C2 listed φ t σ l ids a w) {X Y : List (Nat × AV)} (hC : C1 = X ++ Y) {i : Nat} {o : Oper} (ho : ops[i]? = some o) (hi : on listed i = false)
    (hdl : ∀ d ∈ depsOf o, on listed d = true) (hX : ∀ d ∈ depsOf o, d ∈ X.map (·.1)) (hiX : i ∉ X.map (·.1)) (hY : ∀ e ∈ Y, e.1 ≠ i → e.1 ∉ X.map (·.1)) {t' : T} (h2 : ∀ d, (getT d).run t' = valAt t0 (dstOf ops) X d) :
    Agree ops φ t' a o ∧ ∀ d, o.dst = some d → ∀ e ∈ Y, dstOf ops e.1 = some d → on listed e.1 = false := by
  have hag := s.agree D.hA D.hP hC ho hi hdl hX hiX hY
  refine ⟨fun d hd => ?_, fun d hd => (hag d (.inr hd)).2⟩
  obtain ⟨a1, a2⟩ := hag d (.inl hd)
  have hav := s.av d
  rw [hC, List.filter_append, valAt_append (fun e he hde => by
    obtain ⟨h1, h3⟩ := List.mem_filter.1 he
    rw [a2 e h1 hde] at h3; cases h3), valAt_filter a1, ← h2] at hav
  exact hav

theorem Sim.done (D : Drawn P Γ ops A hs n) (s : Sim P Γ ops A hs n call p base φ0 σ0 w0 t0 ds C1 C2 listed φ t σ l ids a w) {X Y : List (Nat × AV)} {e : Nat × AV} (hC : C1 = X ++ e :: Y) {o : Oper} (ho : ops[e.1]? = some o) (hi : on listed e.1 = false)
    (hdl : ∀ d ∈ depsOf o, on listed d = true) (hlater : ∀ d, o.dst = some d → ∀ e' ∈ e :: Y, dstOf ops e'.1 = some d → on listed e'.1 = false) {u : Value} {ψ : Phi} {w' : World} (hle : φ.le ψ) (hst : Stp base φ0 σ0 w0 ψ σ w') (hu : VR ψ e.2 u)
    (hother : ∀ k id, (k, id) ∈ ids → k ≠ e.1 → φ id = none → ψ id = none) :
    Sim P Γ ops A hs n call p base φ0 σ0 w0 t0 ds C1 C2 (listed.setIfInBounds e.1 true) ψ t σ l ids (a.put o.dst u) w' := by
  have hlt : e.1 < listed.size := by rw [s.lsize]; exact (Array.getElem?_eq_some_iff.1 ho).1
  have hon := fun k => on_set (listed := listed) (k := k) hlt
  have hnX : e.1 ∉ X.map (·.1) := (s.topo X e Y hC).1
  have hnY : e.1 ∉ Y.map (·.1) := by
    intro h
    obtain ⟨e', he', h'⟩ := List.mem_map.1 h
    obtain ⟨Y1, Y2, rfl⟩ := List.append_of_mem he'
    refine (s.topo (X ++ e :: Y1) e' Y2 (by rw [hC]; simp)).1 ?_
    rw [h']; simp
  have hfil : C1.filter (fun x => on (listed.setIfInBounds e.1 true) x.1) = X.filter (fun x => on listed x.1) ++ e :: Y.filter (fun x => on listed x.1) := by
    rw [hC, List.filter_append, List.filter_cons_of_pos (by rw [hon, if_pos rfl])]
    congr 1
    · refine List.filter_congr fun x hx => ?_
      rw [hon, if_neg]; intro h; exact hnX (by rw [← h]; exact List.mem_map.2 ⟨x, hx, rfl⟩)
    · congr 1
      refine List.filter_congr fun x hx => ?_
      rw [hon, if_neg]; intro h; exact hnY (by rw [← h]; exact List.mem_map.2 ⟨x, hx, rfl⟩)
  have hfil0 : C1.filter (fun x => on listed x.1) = X.filter (fun x => on listed x.1) ++ Y.filter (fun x => on listed x.1) := by
    rw [hC, List.filter_append, List.filter_cons_of_neg (by simpa using hi)]
  have hdo : dstOf ops e.1 = o.dst := by simp [dstOf, ho]
  refine ⟨s.chk, s.topo, fun k hk => ?_, fun k ok hok hk d hd => ?_, s.ev, hst, s.tv, fun d => ?_, by rw [put_size]; exact s.size, by rw [put_defers]; exact s.defers, by simpa using s.lsize, s.idsP, s.idsLt, fun X' e' Y' hC' hL => ?_⟩
  · rw [hon] at hk
    by_cases h : k = e.1
    · rw [h, hC]; simp
    · rw [if_neg h] at hk; exact s.sub k hk
  · rw [hon] at hk ⊢
    by_cases h : d = e.1
    · rw [if_pos h]
    · rw [if_neg h]
      by_cases h' : k = e.1
      · rw [h', ho] at hok; cases hok; exact hdl d hd
      · rw [if_neg h'] at hk; exact s.closed k ok hok hk d hd
  · rw [hfil, getD_put s.size (D.hD e.1 o · ho)]
    by_cases hd : o.dst = some d
    · rw [if_pos hd, valAt_last (by rw [hdo]; exact hd)]
      · exact hu
      · intro x hx hdx
        obtain ⟨h1, h3⟩ := List.mem_filter.1 hx
        rw [hlater d hd x (by simp [h1]) hdx] at h3; cases h3
    · rw [if_neg hd, valAt_skip (by rw [hdo]; exact hd), ← hfil0]
      exact (s.av d).mono hle
  · rw [hon] at hL
    by_cases h : e'.1 = e.1
    · rw [if_pos h] at hL; cases hL
    · rw [if_neg h] at hL
      obtain ⟨oe, hoe, hw⟩ := s.wait X' e' Y' hC' hL
      exact ⟨oe, hoe, hw.keep hle.ρ (fun _ h => h) (fun _ h => h) (Nat.le_refl _) (fun _ _ _ h => h) fun id hid _ hn _ => ⟨hother _ id hid h hn, .inl rfl⟩⟩

theorem pairwise_of {α : Type} {R : α → α → Prop} (hsymm : ∀ a b, R a b → R b a) : ∀ {l : List α}, l.Pairwise R → ∀ a ∈ l, ∀ b ∈ l, a ≠ b → R a b
  | x :: l, h, a, ha, b, hb, hne => by
    cases h with
    | cons h1 h2 =>
      rcases List.mem_cons.1 ha with ha' | ha' <;> rcases List.mem_cons.1 hb with hb' | hb'
      · exact absurd (ha'.trans hb'.symm) hne
      · rw [ha']; exact h1 b hb'
      · rw [hb']; exact hsymm _ _ (h1 a ha')
      · exact pairwise_of hsymm h2 a ha' b hb' hne

include hΓ
theorem exec_light (D : Drawn P Γ ops A hs n) (s : Sim P Γ ops A hs n call p base φ0 σ0 w0 t0 ds C1 C2 listed φ t σ l ids a w) {i : Nat} {o : Oper} (ho : ops[i]? = some o) (hi : on listed i = false) (hdl : ∀ d ∈ depsOf o, on listed d = true)
    (hin : i ∈ C1.map (·.1)) {Q : Exit → Act → World → Prop} {K : Act → World → Prop}
    (hK : ∀ ψ a' w', Sim P Γ ops A hs n call p base φ0 σ0 w0 t0 ds C1 C2 (listed.setIfInBounds i true) ψ t σ l ids a' w' → K a' w') : wpOp P ops Q i K a w := by
  obtain ⟨e, he, rfl⟩ := List.mem_map.1 hin
  obtain ⟨X, Y, hC⟩ := List.append_of_mem he
  obtain ⟨hnX, o', ho', hdX⟩ := s.topo X e Y hC
  rw [ho] at ho'; cases ho'
  obtain ⟨o', ho', hw⟩ := s.wait X e Y hC hi
  rw [ho] at ho'; cases ho'
  have hY : ∀ e' ∈ e :: Y, e'.1 ≠ e.1 → e'.1 ∉ X.map (·.1) := by
    intro e' he' _ hx
    rcases List.mem_cons.1 he' with rfl | he'
    · exact hnX hx
    · obtain ⟨Y1, Y2, rfl⟩ := List.append_of_mem he'
      refine (s.topo (X ++ e :: Y1) e' Y2 (by rw [hC]; simp)).1 ?_
      rw [List.map_append]; exact List.mem_append_left _ hx
  have agree := fun {t'} h2 => s.agreeAt D hC ho hi hdl hdX hnX hY (t' := t') h2
  unfold wpOp
  simp only [ho]
  cases hw with
  | skip t' h2 h3 h4 =>
    obtain ⟨hag, hlater⟩ := agree h2
    rw [unwanted_of hag h3]
    exact hK _ _ _ (s.done D hC ho hi hdl hlater (Phi.le_refl _) s.stp (by rw [h4]; exact unit_sound φ) fun _ _ _ _ h => h)
  | pure f t' h1 h2 h3 h4 =>
    obtain ⟨hag, hlater⟩ := agree h2
    rw [wanted_of hag h3]
    exact .inl (op_quiet hΓ (f := fun t _ => f t) (by rw [h1]; rfl) s.stp.mr hag.opers h4 fun u hu => hK _ _ _ (s.done D hC ho hi hdl hlater (Phi.le_refl _) s.stp hu fun _ _ _ _ h => h))
  | read f t' h1 h2 h3 h4 h5 =>
    obtain ⟨hag, hlater⟩ := agree h2
    rw [wanted_of hag h3]
    obtain ⟨v, h4, hfin⟩ := h4
    exact .inl (op_quiet hΓ (by rw [h1]; rfl) s.stp.mr hag.opers h4 fun u hu => hK _ _ _ (s.done D hC ho hi hdl hlater (Phi.le_refl _) s.stp (hfin.VR hu) fun _ _ _ _ h => h))
  | new f t' blk mk id h1 h2 h3 h4 h5 h6 h7 h8 h9 h10 =>
    obtain ⟨hag, hlater⟩ := agree h2
    rw [wanted_of hag h3]
    obtain ⟨c, u, hrun, hnew⟩ := opB_new hΓ h1 hag.opers h4
    have hle : φ.le (φ.set id (w.heap.size, 0) (objSize c)) := Phi.le_set h7 fun d g o hd he => absurd (s.stp.mr.low d g o hd).2 (by simp at he; omega)
    obtain ⟨h11, h12⟩ := hnew (φ.set id (w.heap.size, 0) (objSize c)) id w.heap.size hle (Phi.set_same _ _ _ _) (Phi.set_lim _ _ _ _ _)
    have hst := s.stp.adopt h8 h10 h7 c (by
      rcases h9 with h9 | h9
      · rw [h9]; exact h12 _ (heap_alloc_new w c)
      · rw [h9]; trivial)
    refine .inl ?_
    unfold Oper.wp
    rw [hrun w, Oper.upon_value]
    refine hK _ _ _ (s.done D hC ho hi hdl hlater hle hst (by rw [h5]; exact h11) fun k id' hid' hk hn => ?_)
    have hne : id' ≠ id := by
      have := pairwise_of (R := fun a b : Nat × Nat => a.2 ≠ b.2) (fun a b h => Ne.symm h) s.idsP (k, id') hid' (e.1, id) h6 (by intro h; exact hk (by cases h; rfl))
      exact this
    rw [Phi.set_ne hne]; exact hn

theorem exec_heavy (hc : CallOk P call) (D : Drawn P Γ ops A hs n) {i : Nat} {C3 : List Nat} (s : Sim P Γ ops A hs n call p base φ0 σ0 w0 t0 ds C1 (i :: C3) listed φ t σ l ids a w) {o : Oper} (ho : ops[i]? = some o) (hi : on listed i = false)
    (hdl : ∀ d ∈ depsOf o, on listed d = true) {m : Nat} (hm : A[i]? = some m) (hw : Wants ops φ.ρ o t) (hheavy : (opB P Γ o).heavy = true) {σ' : St} (hfork : Stp base φ σ w φ σ' w) (_ : σ' = σ ∨ recheck 0 σ' l = true) (hev : R.All p ((draw1B P Γ n i m o (drawB P Γ n ops.toList A C3)).run call t σ' l))
    {Q : Exit → Act → World → Prop} {K : Act → World → Prop}
    (hK : ∀ v ψ τ a' w', Sim P Γ ops A hs n call p base φ0 σ0 w0 t0 ds (C1 ++ [(i, v)]) C3 (listed.setIfInBounds i true) ψ ((putB n o.dst).run v t) τ l ids a' w' → K a' w') : wpOp P ops Q i K a w := by
  obtain ⟨o', ho', hnot, hdeps, _, hchk⟩ := checkC_cons s.chk
  rw [ho] at ho'; cases ho'
  obtain ⟨hag, _⟩ := s.agreeAt D (X := C1) (Y := []) (by simp) ho hi hdl hdeps hnot (fun e he => by cases he) s.tv
  have hlt : i < listed.size := by rw [s.lsize]; exact (Array.getElem?_eq_some_iff.1 ho).1
  have hon := fun k => on_set (listed := listed) (k := k) hlt
  have hdo : dstOf ops i = o.dst := by simp [dstOf, ho]
  have mk : ∀ (v : AV) (τ : St) (ψ : Phi) (u : Value) (w' : World), R.All p ((drawB P Γ n ops.toList A C3).run call ((putB n o.dst).run v t) τ l) → recheck m τ l = true → VR ψ v u → Stp base φ σ' w ψ τ w' → K (a.put o.dst u) w' := by
    intro v τ ψ u w' hev hre hu hst
    have hst := hfork.trans hst
    refine hK v ψ τ _ w' ⟨by rw [List.map_append]; exact hchk, fun X e Y hC => ?_, fun k hk => ?_, fun k ok hok hk d hd => ?_, hev, s.stp.trans hst, put_at (D.hD i o · ho) ho s.tv v, fun d => ?_, by rw [put_size]; exact s.size, by rw [put_defers]; exact s.defers,
      by simpa using s.lsize, s.idsP, fun x hx => Nat.lt_of_lt_of_le (s.idsLt x hx) hst.next, fun X e Y hC hL => ?_⟩
    · rcases cut_snoc hC with ⟨Y', h1, _⟩ | ⟨rfl, rfl, _⟩
      · exact s.topo X e Y' h1
      · exact ⟨hnot, o, ho, hdeps⟩
    · rw [hon] at hk
      rw [List.map_append]
      by_cases h : k = i
      · subst h; simp
      · rw [if_neg h] at hk; exact List.mem_append_left _ (s.sub k hk)
    · rw [hon] at hk ⊢
      by_cases h : d = i
      · rw [if_pos h]
      · rw [if_neg h]
        by_cases h' : k = i
        · rw [h', ho] at hok; cases hok; exact hdl d hd
        · rw [if_neg h'] at hk; exact s.closed k ok hok hk d hd
    · have hfil : (C1 ++ [(i, v)]).filter (fun x => on (listed.setIfInBounds i true) x.1) = C1.filter (fun x => on listed x.1) ++ [(i, v)] := by
        rw [List.filter_append]
        congr 1
        · refine List.filter_congr fun x hx => ?_
          rw [hon, if_neg]; intro h; exact hnot (by rw [← h]; exact List.mem_map.2 ⟨x, hx, rfl⟩)
        · rw [List.filter_cons_of_pos (by rw [hon, if_pos rfl])]; rfl
      rw [hfil, valAt_snoc, getD_put s.size (D.hD i o · ho)]
      show VR ψ (if dstOf ops i = some d then v else _) _
      rw [hdo]
      by_cases hd : o.dst = some d
      · rw [if_pos hd, if_pos hd]; exact hu
      · rw [if_neg hd, if_neg hd]; exact (s.av d).mono hst.le
    · rw [hon] at hL
      rcases cut_snoc hC with ⟨Y', h1, _⟩ | ⟨_, rfl, _⟩
      · by_cases h : e.1 = i
        · rw [if_pos h] at hL; cases hL
        · rw [if_neg h] at hL
          obtain ⟨oe, hoe, hwt⟩ := s.wait X e Y' h1 hL
          refine ⟨oe, hoe, hwt.keep hst.le.ρ (fun _ h => h) (fun _ h => h) hst.next (fun g v hg _ => ?_) fun id hid hlt hn hnf => ⟨by rw [hst.keep id hlt]; exact hn, hst.ghost id hlt hn hnf⟩⟩
          rcases recheck_spec (by have := hst.mr.factsHold; rw [hst.le.ρ, hst.le.str] at this; exact this) hre _ hg with h' | h'
          · have := mask_closed D.hA (L := fun k => on listed k = true) s.closed i ho hm hdl e.1 h'
            rw [hL] at this; cases this
          · exact h'
      · simp at hL
  unfold wpOp
  simp only [ho]
  rw [wanted_of hag hw]
  refine .inl ?_
  unfold draw1B at hev
  cases hop : opB P Γ o with
  | p f => rw [hop] at hheavy; cases hheavy
  | q f => rw [hop] at hheavy; cases hheavy
  | n f => rw [hop] at hheavy; cases hheavy
  | bad s => simp only [hop] at hev; exact hev.elim
  | w f =>
    simp only [hop, Bx.use_eq] at hev
    obtain ⟨⟨v, τ⟩, hv, hev⟩ := R.All.onSome hev
    obtain ⟨hre, hev⟩ := R.All.ifb (show R.All p (ifb _ _ (.err "order")) from hev)
    exact op_write hΓ hop hfork.mr hag.opers hv fun ψ u w' hu hst => mk v τ ψ u w' hev hre hu hst
  | c f =>
    simp only [hop, Bx.use_eq] at hev
    refine op_call hop hc hfork.mr hag.opers (R.All.bind hev) fun v τ ψ u w' hr hu hst => ?_
    obtain ⟨hre, hev⟩ := R.All.ifb (show R.All p (ifb _ _ (.err "order")) from hr)
    exact mk v τ ψ u w' hev hre hu hst

omit hΓ in
theorem orMasks_lt {B : List Nat} : ∀ {l : List Nat} {m : Nat}, orMasks B l = some m → ∀ d ∈ l, d < B.length
  | [], _, _, d, hd => by cases hd
  | x :: l, m, h, d, hd => by
    unfold orMasks at h
    cases hx : nth x B with
    | none => simp only [hx] at h; cases h
    | some md =>
      simp only [hx] at h
      cases hr : orMasks B l with
      | none => simp only [hr] at h; cases h
      | some r =>
        rcases List.mem_cons.1 hd with rfl | hd
        · rw [nth_eq] at hx; exact (List.getElem?_eq_some_iff.1 hx).1
        · exact orMasks_lt hr d hd
omit hΓ in
theorem deps_lt (hA : masks ops.toList [] = some A) {i d : Nat} {o : Oper} (ho : ops[i]? = some o) (hd : d ∈ depsOf o) : d < i := by
  obtain ⟨_, hspec⟩ := masks_spec hA
  obtain ⟨m, _, h2⟩ := hspec i o (by simpa using ho)
  have := orMasks_lt h2 d hd
  rw [List.length_take] at this
  simp at this; omega

def left (ops : Array Oper) (listed : Array Bool) : Nat := ((List.range ops.size).filter fun i => !on listed i).length

omit hΓ in
theorem left_set {i : Nat} (hi : i < ops.size) (hl : listed.size = ops.size) (h : on listed i = false) : left ops listed = left ops (listed.setIfInBounds i true) + 1 := by
  unfold left
  have key : ∀ l : List Nat, l.Nodup → i ∈ l → (l.filter fun k => !on listed k).length = (l.filter fun k => !on (listed.setIfInBounds i true) k).length + 1 := by
    intro l hn hi
    obtain ⟨X, Y, rfl⟩ := List.append_of_mem hi
    have hon := fun k => on_set (listed := listed) (i := i) (k := k) (by omega)
    rw [List.filter_append, List.filter_append, List.filter_cons_of_pos (by simp [h]), List.filter_cons_of_neg (by rw [hon, if_pos rfl]; simp)]
    have e : ∀ Z : List Nat, i ∉ Z → (Z.filter fun k => !on (listed.setIfInBounds i true) k) = Z.filter fun k => !on listed k := fun Z hZ => List.filter_congr fun x hx => by rw [hon, if_neg]; intro h; exact hZ (h ▸ hx)
    have hX : i ∉ X := fun h => by have := List.nodup_append.1 hn; exact this.2.2 i h i (by simp) rfl
    have hY : i ∉ Y := fun h => by have := (List.nodup_append.1 hn).2.1; exact (List.nodup_cons.1 this).1 h
    rw [e X hX, e Y hY]
    simp; omega
  exact key _ List.nodup_range (by simpa using hi)

theorem sim_any (hc : CallOk P call) (D : Drawn P Γ ops A hs n) {Q : Exit → Act → World → Prop} (he : Ends P Q base n φ0 σ0 w0 ds p) : ∀ (k : Nat) (C1 : List (Nat × AV)) (C2 : List Nat) (listed : Array Bool) (φ : Phi) (t : T) (σ : St) (l : List Pend) (ids : List (Nat × Nat)) (a : Act) (w : World),
    left ops listed = k → Sim P Γ ops A hs n call p base φ0 σ0 w0 t0 ds C1 C2 listed φ t σ l ids a w → wpAny P .any ops Q k listed a w := by
  intro k
  have fin : ∀ (C1 : List (Nat × AV)) (C2 : List Nat) (listed : Array Bool) (φ : Phi) (t : T) (σ : St) (l : List Pend) (ids : List (Nat × Nat)) (a : Act) (w : World),
      Sim P Γ ops A hs n call p base φ0 σ0 w0 t0 ds C1 C2 listed φ t σ l ids a w → Region.ready .any ops listed = [] → Q .normal a w := by
    intro C1 C2 listed φ t σ l ids a w s hr
    have hall : ∀ i, i < ops.size → on listed i = true := by
      intro i
      induction i using Nat.strongRecOn with
      | _ i ih =>
        intro hi
        cases h : on listed i with
        | true => rfl
        | false =>
          exfalso
          have ho : ops[i]? = some ops[i] := Array.getElem?_eq_getElem hi
          have : i ∈ Region.ready .any ops listed := by
            rw [mem_ready]
            refine ⟨?_, ops[i], ho, fun e he hb => ?_⟩
            · unfold on at h
              have hl : i < listed.size := by rw [s.lsize]; exact hi
              simp [hl] at h ⊢; exact h
            · have hd : e.on ∈ depsOf ops[i] := mem_depsOf.2 ⟨e, he, hb, rfl⟩
              have hlt := deps_lt D.hA ho hd
              exact ih e.on hlt (by omega)
          rw [hr] at this; cases this
    have hC2 : C2 = [] := by
      cases C2 with
      | nil => rfl
      | cons c C3 =>
        obtain ⟨o, ho, hnot, _⟩ := checkC_cons s.chk
        exact absurd (s.sub c (hall c (Array.getElem?_eq_some_iff.1 ho).1)) hnot
    subst hC2
    refine he ⟨t, σ⟩ φ a w s.ev (fun d => ?_) s.size s.defers s.stp
    have := s.av d
    rw [valAt_filter (fun e hmem _ => by
      obtain ⟨X, Y, hC⟩ := List.append_of_mem hmem
      obtain ⟨_, o, ho, _⟩ := s.topo X e Y hC
      exact hall e.1 (Array.getElem?_eq_some_iff.1 ho).1), ← s.tv d] at this
    exact this
  induction k with
  | zero =>
    intro C1 C2 listed φ t σ l ids a w hk s
    have hr : Region.ready .any ops listed = [] := by
      cases h : Region.ready .any ops listed with
      | nil => rfl
      | cons i r =>
        exfalso
        have hi : i ∈ Region.ready .any ops listed := by rw [h]; simp
        rw [mem_ready] at hi
        obtain ⟨h1, o, ho, _⟩ := hi
        have hlt := (Array.getElem?_eq_some_iff.1 ho).1
        have hoff : on listed i = false := by
          unfold on; have hl : i < listed.size := by rw [s.lsize]; exact hlt
          simp [hl] at h1 ⊢; exact h1
        have := left_set hlt s.lsize hoff
        omega
    exact ⟨hr, fin C1 C2 listed φ t σ l ids a w s hr⟩
  | succ k ih =>
    intro C1 C2 listed φ t σ l ids a w hk s
    refine ⟨fun hr => fin C1 C2 listed φ t σ l ids a w s hr, fun i hi => ?_⟩
    rw [mem_ready] at hi
    obtain ⟨h1, o, ho, hdep⟩ := hi
    have hlt := (Array.getElem?_eq_some_iff.1 ho).1
    have hoff : on listed i = false := by
      unfold on; have hl : i < listed.size := by rw [s.lsize]; exact hlt
      simp [hl] at h1 ⊢; exact h1
    have hdl : ∀ d ∈ depsOf o, on listed d = true := fun d hd => by
      obtain ⟨e, he, hb, rfl⟩ := mem_depsOf.1 hd
      exact hdep e he hb
    have hk' : left ops (listed.setIfInBounds i true) = k := by have := left_set hlt s.lsize hoff; omega
    obtain ⟨C1', C2', t', σ', l', ids', s', hcase⟩ := advance D ho hoff hdl C2 C1 t σ l ids s
    rcases hcase with hin | ⟨C3, m, τ', rfl, hm, hw, hheavy, hev, hfork, hre0⟩
    · exact exec_light hΓ D s' ho hoff hdl hin fun ψ a' w' s'' => ih _ _ _ _ _ _ _ _ _ _ hk' s''
    · exact exec_heavy hΓ hc D s' ho hoff hdl hm hw hheavy hfork hre0 hev fun v ψ τ a' w' s'' => ih _ _ _ _ _ _ _ _ _ _ hk' s''
end
end Go.Ev
