/-
  Code, functions, calls.
-/
import Derived.Test.YtjjnhpoemcihgaaGreatEvxf
import Derived.LoopN
namespace Go.Ev

section
variable {P : Program} {Γ : Tab} (hΓ : TabOk P Γ) (hmix : P.follows .mixedOrders = true) {φ : Phi} {base : Nat} {σ : St} {w : World} {n : Nat} {call : Call}

theorem drawnB_spec {ops : Array Oper} {t : T} {p : TS → Prop} (h : R.All p ((drawnB P Γ n ops.toList).run call t σ)) :
    ∃ A hs C, Drawn P Γ ops A hs n ∧ checkC ops.toList A hs [] C = true ∧ R.All p ((drawB P Γ n ops.toList A C).run call t σ []) := by
  unfold drawnB at h
  cases hA : masksT ops.toList 0 T.zero with
  | none => simp only [hA] at h; exact h.elim
  | some A =>
    simp only [hA] at h
    split at h
    · rename_i hb
      obtain ⟨h1, h2⟩ := ifb_and hb
      obtain ⟨h3, h4⟩ := ifb_and h2
      have hmask : masks ops.toList [] = some A := by
        have := masksT_spec (B := []) hA rfl (fun d hd => absurd hd (Nat.not_lt_zero d))
        simpa using this
      have hlen : A.length = ops.toList.length := by have := masks_length hmask; simpa using this
      have hdst : ∀ (i : Nat) (o : Oper) (d : Nat), ops[i]? = some o → o.dst = some d → d < n ∧ d < 576 := fun i o d ho hd => by
        have : ops.toList[i]? = some o := by simpa using ho
        exact dstsOk_spec h1 o (List.mem_of_getElem? this) d hd
      refine ⟨A, ops.toList.map fun o => (opB P Γ o).heavy, _, ⟨hmask, pairsF_spec (fun k o d hk hd => ?_) h4 (fun j a hj => by rw [Nat.zero_add]; exact hj), hdst, fun i o ho => ?_⟩, checkF_spec (fun i hi => ?_) h3 (fun e he => ?_) (fun j => by simp), h⟩
      · have hk' : ops[k]? = some o := by simpa using hk
        have := wrT_spec (k0 := 0) (t := T.zero) hk hd (hdst k o d hk' hd).2
        rw [Nat.zero_add] at this; exact this
      · have : ops.toList[i]? = some o := by simpa using ho
        rw [List.getElem?_map, this]; rfl
      · show ((1 <<< ops.toList.length) - 1).testBit i = true
        rw [Nat.one_shiftLeft, Nat.testBit_two_pow_sub_one]; simpa using hi
      · obtain ⟨j, o, a, h5, h6, rfl⟩ := ents_spec (canonE_mem he)
        refine ⟨o, by rw [Nat.zero_add]; exact h5, rfl, by rw [Nat.zero_add]; exact h6, by rw [Nat.zero_add, List.getElem?_map, h5]; rfl⟩
    · exact h.elim

include hΓ hmix
theorem drawn_sound (hc : CallOk P call) {id : Nat} {ops : Array Oper} {Q : Exit → Act → World → Prop} {p : TS → Prop} {t : T} {a : Act} (hm : MR base φ σ w) (ht : TR φ t a.tmps) (hn : a.tmps.size = n) (h : R.All p ((drawnB P Γ n ops.toList).run call t σ))
    (he : Ends P Q base n φ σ w a.defers p) : (Code.region id ops true).wp P Q a w := by
  obtain ⟨A, hs, C, D, hchk, hev⟩ := drawnB_spec h
  refine wp_region_any hmix ?_
  have he' : Ends P Q base n φ σ w.drew a.defers p := he.step ((Stp.refl hm).draw)
  have s : Sim P Γ ops A hs n call p base φ σ w.drew t a.defers [] C (Array.replicate ops.size false) φ t σ [] [] a w.drew := by
    have hoff : ∀ k, on (Array.replicate ops.size false) k = false := fun k => by
      unfold on; by_cases h : k < ops.size <;> simp [h]
    refine ⟨hchk, (fun X e Y hC => by simp at hC), (fun k hk => by rw [hoff] at hk; cases hk), (fun k o ho hk => by rw [hoff] at hk; cases hk), hev, Stp.refl hm.drew, fun d => rfl, fun d => ht d, hn, rfl, by simp, .nil, (fun x hx => by cases hx), (fun X e Y hC => by simp at hC)⟩
  have hl : left ops (Array.replicate ops.size false) = ops.size := by
    unfold left
    rw [List.filter_eq_self.2 fun k hk => by unfold on; by_cases h : k < ops.size <;> simp [h]]
    simp
  exact sim_any hΓ hc D he' ops.size [] C _ φ t σ [] [] a w.drew hl s

omit hΓ hmix in
def exitOf : X → Exit
  | .nm => .normal
  | .ex i => .exit i
  | .rt => .ret

/-- What code ends in. -/
def Goes (Q : Exit → Act → World → Prop) (base n : Nat) (φ : Phi) (σ : St) (w : World) (ds : List Deferred) (p : Out → Prop) : Prop :=
  ∀ o ψ a' w', p o → TR ψ o.t a'.tmps → a'.tmps.size = n → a'.defers = ds → Stp base φ σ w ψ o.σ w' → Q (exitOf o.x) a' w'

omit hΓ hmix in
theorem Goes.step {Q : Exit → Act → World → Prop} {ψ : Phi} {τ : St} {w' : World} {ds : List Deferred} {p : Out → Prop} (h : Goes Q base n φ σ w ds p) (hs : Stp base φ σ w ψ τ w') : Goes Q base n ψ τ w' ds p :=
  fun o χ a' w'' hp ht hn hd hst => h o χ a' w'' hp ht hn hd (hs.trans hst)

theorem code_sound (hc : CallOk P call) : ∀ (c : Code) {φ : Phi} {σ : St} {w : World} {t : T} {a : Act} {p : Out → Prop} {Q : Exit → Act → World → Prop}, MR base φ σ w → TR φ t a.tmps → a.tmps.size = n →
    R.All p ((codeB P Γ n c).run call t σ) → Goes Q base n φ σ w a.defers p → c.wp P Q a w := by
  intro c
  induction c with
  | skip => intro φ σ w t a p Q hm ht hn h he; exact wp_skip (he ⟨.nm, t, σ⟩ φ a w h ht hn rfl (Stp.refl hm))
  | region id ops draw =>
    intro φ σ w t a p Q hm ht hn h he
    cases draw with
    | false =>
      have h : R.All p (R.bind ((opsB P Γ n ops.toList ops.toList).run call t σ) fun r => TS.casesOn r fun t σ => .one ⟨.nm, t, σ⟩) := h
      refine wp_region ?_
      have := ops_sound hΓ hc (n := n) (ops := ops) (Q := Q) (ds := a.defers) ops.toList 0 (by simp) φ σ w t a hm ht hn rfl (R.All.bind h) fun ts ψ a' w' hp ht hn hd hst => he ⟨.nm, ts.t, ts.σ⟩ ψ a' w' (by cases ts; exact hp) ht hn hd hst
      rw [List.range_eq_range']
      simpa using this
    | true =>
      have h : R.All p (R.bind ((drawnB P Γ n ops.toList).run call t σ) fun r => TS.casesOn r fun t σ => .one ⟨.nm, t, σ⟩) := h
      exact drawn_sound hΓ hmix hc hm ht hn (R.All.bind h) fun ts ψ a' w' hp ht hn hd hst => he ⟨.nm, ts.t, ts.σ⟩ ψ a' w' (by cases ts; exact hp) ht hn hd hst
  | seq x y ihx ihy =>
    intro φ σ w t a p Q hm ht hn h he
    have h : R.All p (R.bind ((codeB P Γ n x).run call t σ) fun o => Out.casesOn o fun x t σ => X.casesOn x ((codeB P Γ n y).run call t σ) (fun i => .one ⟨.ex i, t, σ⟩) (.one ⟨.rt, t, σ⟩)) := h
    refine wp_seq (ihx hm ht hn (R.All.bind h) fun o ψ a' w' hp ht hn hd hst => ?_)
    obtain ⟨xx, t', σ'⟩ := o
    cases xx with
    | nm => exact ihy hst.mr ht hn hp (by rw [hd]; exact he.step hst)
    | ex i => exact he ⟨.ex i, t', σ'⟩ ψ a' w' hp ht hn hd hst
    | rt => exact he ⟨.rt, t', σ'⟩ ψ a' w' hp ht hn hd hst
  | cond c x y ihx ihy =>
    intro φ σ w t a p Q hm ht hn h he
    obtain ⟨b, τ, hv, h1, hst⟩ := onBf_sound (k' := fun b σ => ifb b ((codeB P Γ n x).run call t σ) ((codeB P Γ n y).run call t σ)) (fun b => rfl)
      (show R.All p (((operB c).run t).onB _ (forkB σ ((operB c).run t) "cond" _)) from h) hm (operB_sound ht c)
    refine wp_cond hv ?_
    cases b with
    | true => exact ihx hst.mr ht hn h1 (he.step hst)
    | false => exact ihy hst.mr ht hn h1 (he.step hst)
  | block id b ih =>
    intro φ σ w t a p Q hm ht hn h he
    have h : R.All p (R.bind ((codeB P Γ n b).run call t σ) (outX id)) := h
    refine wp_block (ih hm ht hn (R.All.bind h) fun o ψ a' w' hp ht hn hd hst => ?_)
    obtain ⟨xx, t', σ'⟩ := o
    cases xx with
    | nm => exact he ⟨.nm, t', σ'⟩ ψ a' w' hp ht hn hd hst
    | ex i =>
      show (if i = id then Q .normal a' w' else Q (.exit i) a' w')
      have hp : p ⟨ifb (Nat.beq i id) .nm (.ex i), t', σ'⟩ := hp
      rw [beq_iff] at hp
      by_cases e : i = id
      · rw [if_pos e]; rw [decide_eq_true e] at hp; exact he ⟨.nm, t', σ'⟩ ψ a' w' hp ht hn hd hst
      · rw [if_neg e]; rw [decide_eq_false e] at hp; exact he ⟨.ex i, t', σ'⟩ ψ a' w' hp ht hn hd hst
    | rt => exact he ⟨.rt, t', σ'⟩ ψ a' w' hp ht hn hd hst
  | loop b ih =>
    intro φ σ w t a p Q hm ht hn h he
    have key : ∀ (k : Nat) (φ : Phi) (σ : St) (w : World) (t : T) (a : Act), MR base φ σ w → TR φ t a.tmps → a.tmps.size = n → R.All p (loopN ((codeB P Γ n b).run call) k t σ) → Goes Q base n φ σ w a.defers p → Code.rounds P b Q k a w := by
      intro k
      induction k with
      | zero => intro φ σ w t a hm ht hn h he; exact h.elim
      | succ k ihk =>
        intro φ σ w t a hm ht hn h he
        have h : R.All p (R.bind ((codeB P Γ n b).run call t σ) fun o => Out.casesOn o fun x t σ => X.casesOn x (loopN ((codeB P Γ n b).run call) k t σ) (fun i => .one ⟨.ex i, t, σ⟩) (.one ⟨.rt, t, σ⟩)) := h
        rw [rounds_succ]
        refine ih hm ht hn (R.All.bind h) fun o ψ a' w' hp ht hn hd hst => ?_
        obtain ⟨xx, t', σ'⟩ := o
        cases xx with
        | nm => exact ihk ψ σ' w' t' a' hst.mr ht hn hp (by rw [hd]; exact he.step hst)
        | ex i => exact he ⟨.ex i, t', σ'⟩ ψ a' w' hp ht hn hd hst
        | rt => exact he ⟨.rt, t', σ'⟩ ψ a' w' hp ht hn hd hst
    have plain : R.All p (loopN ((codeB P Γ n b).run call) 100000 t σ) → (Code.loop b).wp P Q a w := fun h => wp_loop_rounds 100000 (key 100000 φ σ w t a hm ht hn h he)
    have h : R.All p ((match firstNext b with
      | none => (⟨fun call t σ => loopN ((codeB P Γ n b).run call) 100000 t σ⟩ : Bx (Call → T → St → R Out))
      | some it => loopA b (codeB P Γ n b).run it).run call t σ) := by unfold codeB at h; exact h
    cases hfn : firstNext b with
    | none => rw [hfn] at h; exact plain h
    | some it =>
      rw [hfn] at h
      have h : R.All p ((loopA b (codeB P Γ n b).run it).run call t σ) := h
      unfold loopA at h
      simp only [Bx.use_eq] at h
      cases hv : (getT it).run t with
      | a l => rw [hv] at h; exact plain h
      | t l => rw [hv] at h; exact plain h
      | c x =>
        cases x with
        | i k m => rw [hv] at h; exact plain h
        | b k => rw [hv] at h; exact plain h
        | s k => rw [hv] at h; exact plain h
        | o k => rw [hv] at h; exact plain h
        | p r off =>
          rw [hv] at h
          obtain ⟨hp0, nx, d⟩ := σ
          have h : R.All p (ifb (ifb (Nat.beq off 0) (ifb (Nat.beq nx (Nat.succ (Nat.succ r))) (bigMap ⟨hp0, nx, d⟩ r) false) false)
            (R.bind (loopH ((codeB P Γ n b).run call) (fun t τ => tellA (Nat.succ r) (.ptr r 0) ((getsB (carriedC b)).run t) τ) (buildH (putsB (carriedC b)).run ((killB (killedC b)).run t) hp0 (Nat.succ r)) 100000 [⟨t, ⟨hp0, nx, nx⟩⟩]) (reDirtyO d))
            (loopN ((codeB P Γ n b).run call) 100000 t ⟨hp0, nx, d⟩)) := h
          cases hc : ifb (Nat.beq off 0) (ifb (Nat.beq nx (Nat.succ (Nat.succ r))) (bigMap ⟨hp0, nx, d⟩ r) false) false with
          | false => rw [hc] at h; exact plain h
          | true =>
            rw [hc] at h
            have hrun := R.All.bind (show R.All p (R.bind (loopH ((codeB P Γ n b).run call) (fun t τ => tellA (Nat.succ r) (.ptr r 0) ((getsB (carriedC b)).run t) τ) (buildH (putsB (carriedC b)).run ((killB (killedC b)).run t) hp0 (Nat.succ r)) 100000 [⟨t, ⟨hp0, nx, nx⟩⟩]) (reDirtyO d)) from h)
            clear h
            obtain ⟨h0, h1⟩ := ifb_and hc
            obtain ⟨h2, _⟩ := ifb_and h1
            rw [beq_iff] at h0 h2
            have h0 := of_decide_eq_true h0
            have h2 : nx = r + 2 := of_decide_eq_true h2
            subst h0 h2
            have hphi : φ r ≠ none := by
              have := ht it
              rw [hv] at this
              obtain ⟨g, o, h3, _⟩ := this
              have h3 : φ r = some (g, o) := h3
              rw [h3]; simp
            have hm' : MR base φ ⟨hp0, r + 2, r + 2⟩ w := ⟨hm.blk, hm.apart, hm.fresh, hm.low, hm.bl, hm.void, hm.vals⟩
            have heads : ∀ (k : Nat) (l : List TS), R.All (fun o => R.All p (reDirtyO d o)) (loopH ((codeB P Γ n b).run call) (fun t τ => tellA (Nat.succ r) (.ptr r 0) ((getsB (carriedC b)).run t) τ) (buildH (putsB (carriedC b)).run ((killB (killedC b)).run t) hp0 (Nat.succ r)) k l) →
                ∀ ts ∈ l, ∀ (ψ : Phi) (u : World) (a' : Act), Stp base φ ⟨hp0, r + 2, r + 2⟩ w ψ ts.σ u → TR ψ ts.t a'.tmps → a'.tmps.size = n → a'.defers = a.defers → Stays (writesC b) t ts.t → Code.rounds P b Q k a' u := by
              intro k
              induction k with
              | zero => intro l h; exact h.elim
              | succ k ihk =>
                intro l h ts hts ψ u a' hst ht' hn' hd' hstay
                unfold loopH at h
                obtain ⟨os, hos, hgo⟩ : ∃ os, outs (R.all (fun s : TS => TS.casesOn s fun t σ => (codeB P Γ n b).run call t σ) l) = some os ∧ R.All (fun o => R.All p (reDirtyO d o)) (match goneOf (fun t τ => tellA (Nat.succ r) (.ptr r 0) ((getsB (carriedC b)).run t) τ) os with
                    | ⟨dn, ks, rs⟩ => onSome (buildAll (buildH (putsB (carriedC b)).run ((killB (killedC b)).run t) hp0 (Nat.succ r)) ks) (fun b' => match b' ++ rs with
                      | [] => .many dn
                      | next => R.app (.many dn) (loopH ((codeB P Γ n b).run call) (fun t τ => tellA (Nat.succ r) (.ptr r 0) ((getsB (carriedC b)).run t) τ) (buildH (putsB (carriedC b)).run ((killB (killedC b)).run t) hp0 (Nat.succ r)) k next)) (.err "head")) := by
                  have h := R.All.bind h
                  cases hr : R.all (fun s : TS => TS.casesOn s fun t σ => (codeB P Γ n b).run call t σ) l with
                  | err s => rw [hr] at h; exact h.elim
                  | one o => rw [hr] at h; exact ⟨[o], rfl, h⟩
                  | many os => rw [hr] at h; exact ⟨os, rfl, h⟩
                have hall := R.All.all (all_outs hos) ts hts
                obtain ⟨t2, σ2⟩ := ts
                have hall : R.All (fun o => o ∈ os) ((codeB P Γ n b).run call t2 σ2) := hall
                have hboth := hall.and (codeB_stays (P := P) (Γ := Γ) (n := n) (call := call) b t2 σ2)
                generalize hgone : goneOf (fun t τ => tellA (Nat.succ r) (.ptr r 0) ((getsB (carriedC b)).run t) τ) os = gn at hgo
                obtain ⟨dn, ks, rs⟩ := gn
                obtain ⟨b', hb', hgo⟩ := R.All.onSome hgo
                have hdone : (∀ o ∈ dn, R.All p (reDirtyO d o)) ∧ ∀ s ∈ b' ++ rs, R.All (fun o => R.All p (reDirtyO d o)) (loopH ((codeB P Γ n b).run call) (fun t τ => tellA (Nat.succ r) (.ptr r 0) ((getsB (carriedC b)).run t) τ) (buildH (putsB (carriedC b)).run ((killB (killedC b)).run t) hp0 (Nat.succ r)) k (b' ++ rs)) := by
                  generalize b' ++ rs = next at hgo
                  cases next with
                  | nil => exact ⟨hgo, fun s hs => by cases hs⟩
                  | cons s next =>
                    obtain ⟨h3, h4⟩ := R.All.app hgo
                    exact ⟨h3, fun _ _ => h4⟩
                have hspec := goneOf_spec (m := Nat.succ r) (it := .ptr r 0) (gets := (getsB (carriedC b)).run) (tell := fun t τ => tellA (Nat.succ r) (.ptr r 0) ((getsB (carriedC b)).run t) τ) rfl os
                rw [hgone] at hspec
                rw [rounds_succ]
                refine ih hst.mr ht' hn' hboth fun o χ a2 w2 ho ht2 hn2 hd2 hst2 => ?_
                obtain ⟨hmem, hst3⟩ := ho
                have hst4 := hst.trans hst2
                have hstay2 := hstay.trans hst3
                have hsp := hspec o hmem
                obtain ⟨xx, t3, σ3⟩ := o
                have leave : ∀ x : X, x ≠ .nm → R.All p (reDirtyO d ⟨x, t3, σ3⟩) → Q (exitOf x) a2 w2 := by
                  intro x hx hR
                  obtain ⟨h5, n5, e5⟩ := σ3
                  have hR : p ⟨x, t3, ⟨h5, n5, minN d e5⟩⟩ := hR
                  have := Stp.reDirty (σ := ⟨hp0, r + 2, d⟩) hst4
                  exact he ⟨x, t3, ⟨h5, n5, minN d e5⟩⟩ χ a2 w2 hR ht2 hn2 (by rw [hd2, hd']) this
                cases xx with
                | ex i => exact leave (.ex i) (by simp) (hdone.1 _ hsp)
                | rt => exact leave .rt (by simp) (hdone.1 _ hsp)
                | nm =>
                  rcases hsp with ⟨q, hq, hk⟩ | hrest
                  · obtain ⟨s, hs, hbs⟩ := buildAll_of hb' q hk
                    obtain ⟨ξ, h6, h7⟩ := head_sound (ws := writesC b) hm' hst4 hphi (fun d hd => carried_mem hd) (fun d hd => carried_or_killed hd) ht ht2 hstay2 hq hbs
                    exact ihk (b' ++ rs) (hdone.2 s (by simp [hs])) s (by simp [hs]) ξ w2 a2 h6 h7 hn2 (by rw [hd2, hd']) ((killB_stays (fun d hd => killed_mem hd) t).trans (buildH_stays (fun d hd => carried_mem hd) hbs))
                  · exact ihk (b' ++ rs) (hdone.2 ⟨t3, σ3⟩ (by simp [hrest])) ⟨t3, σ3⟩ (by simp [hrest]) χ w2 a2 hst4 ht2 hn2 (by rw [hd2, hd']) hstay2
            exact wp_loop_rounds 100000 (heads 100000 _ hrun ⟨t, ⟨hp0, r + 2, r + 2⟩⟩ (by simp) φ w a (Stp.refl hm') ht hn rfl (Stays.refl _ t))
  | exit id => intro φ σ w t a p Q hm ht hn h he; exact wp_exit (he ⟨.ex id, t, σ⟩ φ a w h ht hn rfl (Stp.refl hm))
  | ret => intro φ σ w t a p Q hm ht hn h he; exact wp_ret (he ⟨.rt, t, σ⟩ φ a w h ht hn rfl (Stp.refl hm))
  | _ => intro φ σ w t a p Q hm ht hn h he; exact h.elim
end
end Go.Ev
