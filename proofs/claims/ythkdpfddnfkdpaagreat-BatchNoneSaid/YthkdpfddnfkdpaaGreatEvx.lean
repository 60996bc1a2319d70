/-
  Code, functions, calls.
-/
import Derived.Test.YthkdpfddnfkdpaaGreatEvw
import Derived.LoopN
namespace Go.Ev

section
variable {P : Program} {Γ : Tab} (hΓ : TabOk P Γ) (hmix : P.follows .mixedOrders = true) {φ : Phi} {base : Nat} {σ : St} {w : World} {n : Nat} {call : Call}

theorem drawnB_spec {ops : Array Oper} {t : T} {p : TS → Prop} (h : R.All p ((drawnB P Γ n ops.toList).run call t σ)) :
    ∃ A hs C, Drawn P Γ ops A hs n ∧ checkC ops.toList A hs [] C = true ∧ R.All p ((drawB P Γ n ops.toList A C).run call t σ []) := by
  unfold drawnB at h
  cases hA : masks ops.toList [] with
  | none => simp only [hA] at h; exact h.elim
  | some A =>
    simp only [hA] at h
    split at h
    · rename_i hb
      obtain ⟨h1, h2⟩ := ifb_and hb
      obtain ⟨h3, h4⟩ := ifb_and h2
      refine ⟨A, ops.toList.map fun o => (opB P Γ o).heavy, _, ⟨hA, h3, fun i o d ho hd => ?_, fun i o ho => ?_⟩, h1, h⟩
      · have hmem : o ∈ ops.toList := by
          have : ops.toList[i]? = some o := by simpa using ho
          exact List.mem_of_getElem? this
        have := List.all_eq_true.1 h4 o hmem
        simp only [hd] at this
        obtain ⟨h5, h6⟩ := ifb_and this
        rw [Nat.blt_eq] at h5 h6
        exact ⟨h5, h6⟩
      · have : ops.toList[i]? = some o := by simpa using ho
        rw [List.getElem?_map, this]; rfl
    · exact h.elim

include hΓ hmix
theorem drawn_sound (hc : CallOk P call) {id : Nat} {ops : Array Oper} {Q : Exit → Act → World → Prop} {p : TS → Prop} {t : T} {a : Act} (hm : MR base φ σ w) (ht : TR φ t a.tmps) (hn : a.tmps.size = n) (h : R.All p ((drawnB P Γ n ops.toList).run call t σ))
    (he : Ends P Q base n φ σ w a.defers p) : (Code.region id ops true).wp P Q a w := by
  obtain ⟨A, hs, C, D, hchk, hev⟩ := drawnB_spec h
  refine wp_region_any hmix ?_
  have he' : Ends P Q base n φ σ w.drew a.defers p := he.step ((Stp.refl hm).draw)
  have s : Sim P Γ ops A hs n call p base φ σ w.drew t a.defers [] C (Array.replicate ops.size false) φ t σ [] [] a w.drew := by
    have hoff : ∀ k, on (Array.replicate ops.size false) k = false := fun k => by
      unfold on; by_cases h : k < ops.size <;> simp [h]
    refine ⟨hchk, (fun X e Y hC => by simp at hC), (fun k hk => by rw [hoff] at hk; cases hk), (fun k o ho hk => by rw [hoff] at hk; cases hk), hev, Stp.refl hm.drew, fun d => rfl, fun d => ht d, hn, rfl, by simp, .nil, (fun x hx => by cases hx), (fun X e Y hC => by simp at hC)⟩
  have hl : left ops (Array.replicate ops.size false) = ops.size := by
    unfold left
    rw [List.filter_eq_self.2 fun k hk => by unfold on; by_cases h : k < ops.size <;> simp [h]]
    simp
  exact sim_any hΓ hc D he' ops.size [] C _ φ t σ [] [] a w.drew hl s

omit hΓ hmix in
def exitOf : X → Exit
  | .nm => .normal
  | .ex i => .exit i
  | .rt => .ret

/-- What code ends in. -/
def Goes (Q : Exit → Act → World → Prop) (base n : Nat) (φ : Phi) (σ : St) (w : World) (ds : List Deferred) (p : Out → Prop) : Prop :=
  ∀ o ψ a' w', p o → TR ψ o.t a'.tmps → a'.tmps.size = n → a'.defers = ds → Stp base φ σ w ψ o.σ w' → Q (exitOf o.x) a' w'

omit hΓ hmix in
theorem Goes.step {Q : Exit → Act → World → Prop} {ψ : Phi} {τ : St} {w' : World} {ds : List Deferred} {p : Out → Prop} (h : Goes Q base n φ σ w ds p) (hs : Stp base φ σ w ψ τ w') : Goes Q base n ψ τ w' ds p :=
  fun o χ a' w'' hp ht hn hd hst => h o χ a' w'' hp ht hn hd (hs.trans hst)

theorem code_sound (hc : CallOk P call) : ∀ (c : Code) {φ : Phi} {σ : St} {w : World} {t : T} {a : Act} {p : Out → Prop} {Q : Exit → Act → World → Prop}, MR base φ σ w → TR φ t a.tmps → a.tmps.size = n →
    R.All p ((codeB P Γ n c).run call t σ) → Goes Q base n φ σ w a.defers p → c.wp P Q a w := by
  intro c
  induction c with
  | skip => intro φ σ w t a p Q hm ht hn h he; exact wp_skip (he ⟨.nm, t, σ⟩ φ a w h ht hn rfl (Stp.refl hm))
  | region id ops draw =>
    intro φ σ w t a p Q hm ht hn h he
    cases draw with
    | false =>
      have h : R.All p (R.bind ((opsB P Γ n ops.toList ops.toList).run call t σ) fun r => TS.casesOn r fun t σ => .one ⟨.nm, t, σ⟩) := h
      refine wp_region ?_
      have := ops_sound hΓ hc (n := n) (ops := ops) (Q := Q) (ds := a.defers) ops.toList 0 (by simp) φ σ w t a hm ht hn rfl (R.All.bind h) fun ts ψ a' w' hp ht hn hd hst => he ⟨.nm, ts.t, ts.σ⟩ ψ a' w' (by cases ts; exact hp) ht hn hd hst
      rw [List.range_eq_range']
      simpa using this
    | true =>
      have h : R.All p (R.bind ((drawnB P Γ n ops.toList).run call t σ) fun r => TS.casesOn r fun t σ => .one ⟨.nm, t, σ⟩) := h
      exact drawn_sound hΓ hmix hc hm ht hn (R.All.bind h) fun ts ψ a' w' hp ht hn hd hst => he ⟨.nm, ts.t, ts.σ⟩ ψ a' w' (by cases ts; exact hp) ht hn hd hst
  | seq x y ihx ihy =>
    intro φ σ w t a p Q hm ht hn h he
    have h : R.All p (R.bind ((codeB P Γ n x).run call t σ) fun o => Out.casesOn o fun x t σ => X.casesOn x ((codeB P Γ n y).run call t σ) (fun i => .one ⟨.ex i, t, σ⟩) (.one ⟨.rt, t, σ⟩)) := h
    refine wp_seq (ihx hm ht hn (R.All.bind h) fun o ψ a' w' hp ht hn hd hst => ?_)
    obtain ⟨xx, t', σ'⟩ := o
    cases xx with
    | nm => exact ihy hst.mr ht hn hp (by rw [hd]; exact he.step hst)
    | ex i => exact he ⟨.ex i, t', σ'⟩ ψ a' w' hp ht hn hd hst
    | rt => exact he ⟨.rt, t', σ'⟩ ψ a' w' hp ht hn hd hst
  | cond c x y ihx ihy =>
    intro φ σ w t a p Q hm ht hn h he
    have h : R.All p (((operB c).run t).onB (fun b => ifb b ((codeB P Γ n x).run call t σ) ((codeB P Γ n y).run call t σ)) (.err "cond")) := h
    obtain ⟨b, hb, h1⟩ := R.All.onB h
    have hv := operB_sound ht c
    rw [hb] at hv
    have hv : a.eval c = .bool b := hv
    refine wp_cond hv ?_
    cases b with
    | true => exact ihx hm ht hn h1 he
    | false => exact ihy hm ht hn h1 he
  | block id b ih =>
    intro φ σ w t a p Q hm ht hn h he
    have h : R.All p (R.bind ((codeB P Γ n b).run call t σ) (outX id)) := h
    refine wp_block (ih hm ht hn (R.All.bind h) fun o ψ a' w' hp ht hn hd hst => ?_)
    obtain ⟨xx, t', σ'⟩ := o
    cases xx with
    | nm => exact he ⟨.nm, t', σ'⟩ ψ a' w' hp ht hn hd hst
    | ex i =>
      show (if i = id then Q .normal a' w' else Q (.exit i) a' w')
      have hp : p ⟨ifb (Nat.beq i id) .nm (.ex i), t', σ'⟩ := hp
      rw [beq_iff] at hp
      by_cases e : i = id
      · rw [if_pos e]; rw [decide_eq_true e] at hp; exact he ⟨.nm, t', σ'⟩ ψ a' w' hp ht hn hd hst
      · rw [if_neg e]; rw [decide_eq_false e] at hp; exact he ⟨.ex i, t', σ'⟩ ψ a' w' hp ht hn hd hst
    | rt => exact he ⟨.rt, t', σ'⟩ ψ a' w' hp ht hn hd hst
  | loop b ih =>
    intro φ σ w t a p Q hm ht hn h he
    have key : ∀ (k : Nat) (φ : Phi) (σ : St) (w : World) (t : T) (a : Act), MR base φ σ w → TR φ t a.tmps → a.tmps.size = n → R.All p (loopN ((codeB P Γ n b).run call) k t σ) → Goes Q base n φ σ w a.defers p → Code.rounds P b Q k a w := by
      intro k
      induction k with
      | zero => intro φ σ w t a hm ht hn h he; exact h.elim
      | succ k ihk =>
        intro φ σ w t a hm ht hn h he
        have h : R.All p (R.bind ((codeB P Γ n b).run call t σ) fun o => Out.casesOn o fun x t σ => X.casesOn x (loopN ((codeB P Γ n b).run call) k t σ) (fun i => .one ⟨.ex i, t, σ⟩) (.one ⟨.rt, t, σ⟩)) := h
        rw [rounds_succ]
        refine ih hm ht hn (R.All.bind h) fun o ψ a' w' hp ht hn hd hst => ?_
        obtain ⟨xx, t', σ'⟩ := o
        cases xx with
        | nm => exact ihk ψ σ' w' t' a' hst.mr ht hn hp (by rw [hd]; exact he.step hst)
        | ex i => exact he ⟨.ex i, t', σ'⟩ ψ a' w' hp ht hn hd hst
        | rt => exact he ⟨.rt, t', σ'⟩ ψ a' w' hp ht hn hd hst
    exact wp_loop_rounds 100000 (key 100000 φ σ w t a hm ht hn h he)
  | exit id => intro φ σ w t a p Q hm ht hn h he; exact wp_exit (he ⟨.ex id, t, σ⟩ φ a w h ht hn rfl (Stp.refl hm))
  | ret => intro φ σ w t a p Q hm ht hn h he; exact wp_ret (he ⟨.rt, t, σ⟩ φ a w h ht hn rfl (Stp.refl hm))
  | _ => intro φ σ w t a p Q hm ht hn h he; exact h.elim
end
end Go.Ev
