/-
  Operations in the text's order.
-/
import Derived.Test.YtjjnhpoemcihgaaGreatEvra
namespace Go.Ev

section
variable {P : Program} {Γ : Tab} (hΓ : TabOk P Γ) {φ : Phi} {base : Nat} {σ : St} {w : World}

theorem TR.ops {t : T} {a : Act} (h : TR φ t a.tmps) (o : Oper) : ∀ x ∈ o.op.operands, OR φ t a.eval x := fun x _ => operB_sound h x

theorem put_defers (a : Act) (d : Option Tmp) (v : Value) : (a.put d v).defers = a.defers := by cases d <;> rfl

/-- What a guard tells. -/
theorem yielded_bool {ops : Array Oper} {a : Act} {j : Nat} {g : Oper} (hg : ops[j]? = some g) {d : Tmp} (hd : g.dst = some d) {b : Bool} (this : a.tmps.getD d undef = .bool b) :
    yielded ops a.tmps j = some b := by
  have h2 : a.tmps[d]? = some (.bool b) := by
    rw [Array.getD_eq_getD_getElem?] at this
    cases h : a.tmps[d]? with
    | none => rw [h] at this; cases this
    | some v => rw [h] at this; exact congrArg some this
  simp [yielded, hg, hd, h2]
theorem yielded_tuple {ops : Array Oper} {a : Act} {t : T} (ht : TR φ t a.tmps) {j : Nat} {g : Oper} (hg : ops[j]? = some g) {d : Tmp} (hd : g.dst = some d) {l : List TV} (hb : (getT d).run t = .t l) :
    yielded ops a.tmps j = none := by
  have := ht d
  rw [hb] at this
  obtain ⟨vs, hv, _⟩ := this
  cases h : a.tmps[d]? with
  | none => simp [yielded, hg, hd, h]
  | some v =>
    rw [Array.getD_eq_getD_getElem?, h] at hv
    have hv : v = .tuple vs := hv
    subst hv
    simp [yielded, hg, hd, h]

/-- What a list of operations, done one behind the other, ends in. -/
def Ends (_ : Program) (Q : Exit → Act → World → Prop) (base n : Nat) (φ : Phi) (σ : St) (w : World) (ds : List Deferred) (p : TS → Prop) : Prop :=
  ∀ ts ψ a' w', p ts → TR ψ ts.t a'.tmps → a'.tmps.size = n → a'.defers = ds → Stp base φ σ w ψ ts.σ w' → Q .normal a' w'

theorem Ends.step {Q : Exit → Act → World → Prop} {n : Nat} {ψ : Phi} {τ : St} {w' : World} {ds : List Deferred} {p : TS → Prop} (h : Ends P Q base n φ σ w ds p) (hs : Stp base φ σ w ψ τ w') : Ends P Q base n ψ τ w' ds p :=
  fun ts χ a' w'' hp ht hn hd hst => h ts χ a' w'' hp ht hn hd (hs.trans hst)

include hΓ
theorem op1_sound0 {call : Call} (hc : CallOk P call) {n : Nat} {o : Oper} {k : OpsB} {Q : Exit → Act → World → Prop} {p : TS → Prop} (hm : MR base φ σ w) {t : T} {a : Act} (ht : TR φ t a.tmps) (hn : a.tmps.size = n)
    (h : R.All p ((op1B0 P Γ n o k).run call t σ)) (he : Ends P Q base n φ σ w a.defers p) {next : Act → World → Prop}
    (hk : ∀ (φ : Phi) (σ : St) (w : World) (t : T) (a' : Act), MR base φ σ w → TR φ t a'.tmps → a'.tmps.size = n → a'.defers = a.defers → R.All p (k.run call t σ) → Ends P Q base n φ σ w a.defers p → next a' w) :
    o.wp P a w next Q := by
  have go : ∀ (ψ : Phi) (τ : St) (w' : World) (v : AV) (u : Value), Stp base φ σ w ψ τ w' → VR ψ v u → R.All p (k.run call ((putB n o.dst).run v t) τ) → next (a.put o.dst u) w' := fun ψ τ w' v u hst hv hr =>
    hk ψ τ w' _ _ hst.mr ((ht.mono hst.le).put hn hv) (by rw [put_size]; exact hn) (put_defers _ _ _) hr (he.step hst)
  unfold op1B0 at h
  cases ho : opB P Γ o with
  | p f =>
    simp only [ho, Bx.use_eq] at h
    obtain ⟨v, hv, h1⟩ := R.All.onSome h
    exact op_quiet hΓ (f := fun t _ => f t) (by rw [ho]; rfl) hm (ht.ops o) hv fun u hu => go φ σ w v u (Stp.refl hm) hu h1
  | q f =>
    simp only [ho, Bx.use_eq] at h
    obtain ⟨v, hv, h1⟩ := R.All.onSome h
    exact op_quiet hΓ (by rw [ho]; rfl) hm (ht.ops o) hv fun u hu => go φ σ w v u (Stp.refl hm) hu h1
  | n f =>
    simp only [ho, Bx.use_eq] at h
    obtain ⟨⟨blk, mk⟩, hv, h1⟩ := R.All.onSome h
    obtain ⟨⟨v, τ⟩, hb, h2⟩ := R.All.onSome h1
    obtain ⟨m, hm1, hm2, he⟩ := newBlk_some hb
    cases he
    obtain ⟨c, u, hrun, hnew⟩ := opB_new hΓ ho (ht.ops o) hv
    have hfr : φ m = none := hm.fresh m (by omega)
    have hle : φ.le (φ.set m (w.heap.size, 0) (objSize c)) := Phi.le_set hfr fun d g o hd he => absurd (hm.low d g o hd).2 (by simp at he; omega)
    obtain ⟨h3, h4⟩ := hnew (φ.set m (w.heap.size, 0) (objSize c)) m w.heap.size hle (Phi.set_same _ _ _ _) (Phi.set_lim _ _ _ _ _)
    have hst := hm.new hm1 hm2 blk c (h4 _ (heap_alloc_new w c))
    unfold Oper.wp
    rw [hrun w, Oper.upon_value]
    exact go _ _ _ _ _ hst h3 h2
  | w f =>
    simp only [ho, Bx.use_eq] at h
    obtain ⟨⟨v, τ⟩, hv, h1⟩ := R.All.onSome h
    exact op_write hΓ ho hm (ht.ops o) hv fun ψ u w' hu hst => go ψ τ w' v u hst hu h1
  | c f =>
    simp only [ho, Bx.use_eq] at h
    exact op_call ho hc hm (ht.ops o) (R.All.bind h) fun v τ ψ u w' hr hu hst => go ψ τ w' v u hst hu hr
  | bad s =>
    simp only [ho] at h
    exact h.elim

theorem op1_sound {call : Call} (hc : CallOk P call) {n : Nat} {o : Oper} {k : OpsB} {Q : Exit → Act → World → Prop} {p : TS → Prop} (hm : MR base φ σ w) {t : T} {a : Act} (ht : TR φ t a.tmps) (hn : a.tmps.size = n)
    (h : R.All p ((op1B P Γ n o k).run call t σ)) (he : Ends P Q base n φ σ w a.defers p) {next : Act → World → Prop}
    (hk : ∀ (φ : Phi) (σ : St) (w : World) (t : T) (a' : Act), MR base φ σ w → TR φ t a'.tmps → a'.tmps.size = n → a'.defers = a.defers → R.All p (k.run call t σ) → Ends P Q base n φ σ w a.defers p → next a' w) :
    o.wp P a w next Q := by
  unfold op1B at h
  cases hf : forkOf Γ o with
  | none => rw [hf] at h; exact op1_sound0 hΓ hc hm ht hn h he hk
  | some g =>
    rw [hf] at h
    simp only [Bx.use_eq] at h
    cases hg : g.run t with
    | none => rw [hg] at h; exact op1_sound0 hΓ hc hm ht hn h he hk
    | some e =>
      rw [hg] at h
      obtain ⟨_, τ, _, h1, h2⟩ := forkB_told (k := fun _ σ => (op1B0 P Γ n o k).run call t σ) h hm
      exact op1_sound0 hΓ hc h2.mr ht hn h1 (he.step h2) hk

theorem ops_sound {call : Call} (hc : CallOk P call) {n : Nat} {ops : Array Oper} {Q : Exit → Act → World → Prop} {p : TS → Prop} {ds : List Deferred} : ∀ (l : List Oper) (i : Nat), ops.toList.drop i = l →
    ∀ (φ : Phi) (σ : St) (w : World) (t : T) (a : Act), MR base φ σ w → TR φ t a.tmps → a.tmps.size = n → a.defers = ds → R.All p ((opsB P Γ n ops.toList l).run call t σ) → Ends P Q base n φ σ w ds p →
      wpOps P ops Q (List.range' i l.length) a w
  | [], i, _, φ, σ, w, t, a, hm, ht, hn, hd, h, he => he ⟨t, σ⟩ φ a w h ht hn hd (Stp.refl hm)
  | o :: l, i, hl, φ, σ, w, t, a, hm, ht, hn, hd, h, he => by
    have hoi : ops[i]? = some o := by
      have : (ops.toList.drop i)[0]? = some o := by rw [hl]; rfl
      rw [List.getElem?_drop] at this
      simpa using this
    have hl' : ops.toList.drop (i + 1) = l := by rw [← List.drop_drop, hl]; rfl
    have ih := ops_sound hc (n := n) (ops := ops) (Q := Q) (p := p) (ds := ds) l (i + 1) hl'
    rw [List.length_cons, List.range'_succ]
    simp only [wpOps, hoi]
    unfold opsB at h
    have run : ∀ σ, MR base φ σ w → Ends P Q base n φ σ w ds p → R.All p ((op1B P Γ n o (opsB P Γ n ops.toList l)).run call t σ) → o.wp P a w (wpOps P ops Q (List.range' (i + 1) l.length)) Q := fun σ hm he h =>
      op1_sound hΓ hc hm ht hn h (by rw [hd]; exact he) fun φ σ w t a' hm ht hn hd' h he => ih φ σ w t a' hm ht hn (by rw [hd', hd]) h (by rw [hd] at he; exact he)
    have skip : ∀ σ, MR base φ σ w → Ends P Q base n φ σ w ds p → R.All p ((opsB P Γ n ops.toList l).run call ((putB n o.dst).run (.t []) t) σ) → wpOps P ops Q (List.range' (i + 1) l.length) (a.put o.dst undef) w := fun σ hm he h =>
      ih φ σ w _ _ hm (ht.put hn (unit_sound φ)) (by rw [put_size]; exact hn) (by rw [put_defers]; exact hd) h he
    cases hg : o.guard with
    | none =>
      simp only [hg] at h
      simp only [Region.wanted, hg, if_true]
      exact .inl (run σ hm he h)
    | some gw =>
      obtain ⟨j, want⟩ := gw
      simp only [hg] at h
      cases hj : nth j ops.toList with
      | none => simp only [hj] at h; exact h.elim
      | some g =>
        simp only [hj] at h
        cases hgd : g.dst with
        | none => simp only [hgd] at h; exact h.elim
        | some d =>
          simp only [hgd, Bx.use_eq] at h
          have hgj : ops[j]? = some g := by rw [nth_eq] at hj; simpa using hj
          cases hv : (getT d).run t with
          | a l => rw [hv] at h; exact h.elim
          | t l =>
            rw [hv] at h
            have hy := yielded_tuple ht hgj hgd hv
            simp only [Region.wanted, hg, hy]
            exact skip σ hm he h
          | c x =>
            rw [hv] at h
            have htd := ht d
            rw [hv] at htd
            obtain ⟨b, τ, hb, h1, hst⟩ := onBf_sound (k' := fun b σ => ifb (ifb want b (!b)) ((op1B P Γ n o (opsB P Γ n ops.toList l)).run call t σ) ((opsB P Γ n ops.toList l).run call ((putB n o.dst).run (.t []) t) σ)) (fun b => rfl)
              (show R.All p ((AV.c x).onB _ (forkB σ (AV.c x) "guard" _)) from h) hm htd
            have hy := yielded_bool hgj hgd hb
            simp only [Region.wanted, hg, hy]
            have run := run τ hst.mr (he.step hst)
            have skip := skip τ hst.mr (he.step hst)
            cases b <;> cases want <;> simp only [ifb, Bool.not_true, Bool.not_false] at h1
            · exact .inl (run h1)
            · exact skip h1
            · exact skip h1
            · exact .inl (run h1)
end
end Go.Ev
