/-
  Functions and calls.
-/
import Derived.Test.YtjjnhpoemcihgaaGreatEvxc
namespace Go.Ev

section
variable {P : Program} {Γ : Tab} (hΓ : TabOk P Γ) (hmix : P.follows .mixedOrders = true) {φ : Phi} {base : Nat} {σ : St} {w : World} {n : Nat} {call : Call}

theorem TR.putT {t : T} {tmps : Array Value} (ht : TR φ t tmps) {i : Nat} {x : AV} {u : Value} (hx : VR φ x u) (hi : tmps[i]? = some u) : TR φ ((putT i).run x t) tmps := by
  intro d
  by_cases e : d = i
  · by_cases hlt : i < 576
    · rw [e, getT_putT_same hlt, Array.getD_eq_getD_getElem?, hi]
      exact hx
    · have hb : Nat.blt i 576 = false := blt_false hlt
      have : (getT i) = ⟨fun _ => .any⟩ := by unfold getT; rw [hb]
      rw [e, this]; exact VR.any φ _
  · rw [getT_putT_ne e]; exact ht d
theorem argsT_sound (args : List AV) : ∀ {us : List Value} {i : Nat} {t : T} {tmps : Array Value}, All2 (VR φ) args us → TR φ t tmps → (∀ j u, us[j]? = some u → tmps[i + j]? = some u) → TR φ (argsT i args t) tmps := by
  induction args with
  | nil => intro us i t tmps _ ht _; exact ht
  | cons x args ih =>
    intro us i t tmps h ht hu
    cases us with
    | nil => exact h.elim
    | cons u us =>
      have h0 := hu 0 u rfl
      rw [Nat.add_zero] at h0
      refine ih (i := Nat.succ i) h.2 (ht.putT h.1 h0) fun j v hj => ?_
      have := hu (j + 1) v (by simpa using hj)
      rw [← this]; congr 1; omega

/-- What a result is. -/
def resVal (tmps : Array Value) : ResultVar → Sem Value
  | .tmp t => pure (tmps.getD t undef)
  | .cell a t => do loadVar t (← asAddr (tmps.getD a undef))
theorem results_eq (fn : Func) (tmps : Array Value) : results fn tmps = (do let vs ← fn.results.mapM (resVal tmps); pure (if h : vs.size = 1 then vs[0] else .tuple vs)) := by
  unfold results
  congr 1

include hΓ
theorem resB_sound (hm : MR base φ σ w) {t : T} {tmps : Array Value} (ht : TR φ t tmps) : ∀ {l : List ResultVar} {vs : List AV}, (resB Γ l).run t σ = some vs → ∃ us : List Value, All2 (VR φ) vs us ∧
    (l.mapM (resVal tmps)).run P w = .ok us w
  | [], vs, h => by cases h; exact ⟨[], trivial, rfl⟩
  | .tmp i :: l, vs, h => by
    have h : onSome ((resB Γ l).run t σ) (fun vs => some ((getT i).run t :: vs)) none = some vs := h
    obtain ⟨vs', h1, h2⟩ := onSome_eq h
    cases h2
    obtain ⟨us, h3, h4⟩ := resB_sound hm ht h1
    exact ⟨tmps.getD i undef :: us, ⟨ht i, h3⟩, by simp only [List.mapM_cons, resVal, Sem.run_bind, Sem.run_pure, Result.andThen_ok, h4]⟩
  | .cell i ty :: l, vs, h => by
    have h : onSome ((loadB Γ ty).run σ ((getT i).run t)) (fun v => onSome ((resB Γ l).run t σ) (fun vs => some (v :: vs)) none) none = some vs := h
    obtain ⟨v, h0, h⟩ := onSome_eq h
    obtain ⟨vs', h1, h2⟩ := onSome_eq h
    cases h2
    obtain ⟨us, h3, h4⟩ := resB_sound hm ht h1
    obtain ⟨u, hu, hv⟩ := loadB_sound hΓ hm h0 (ht i)
    have hptr : ∃ b off, (getT i).run t = .ptr b off := by
      unfold loadB at h0
      cases hs : Γ.shape ty with
      | none => rw [hs] at h0; cases h0
      | one => rw [hs] at h0; obtain ⟨b, off, h5, _⟩ := onP_some h0; exact ⟨b, off, h5⟩
      | many k => rw [hs] at h0; obtain ⟨b, off, h5, _⟩ := onP_some h0; exact ⟨b, off, h5⟩
    obtain ⟨b, off, hbo⟩ := hptr
    have hti := ht i
    rw [hbo] at hti
    obtain ⟨g, o, hp, hval⟩ := hti
    rw [hval] at hu
    have hu' : (loadVar ty ⟨g, o + off, none⟩).run P w = .ok u w := by simpa [Instr.loadAt, Instr.sureAddr] using hu
    exact ⟨u :: us, ⟨hv, h3⟩, by simp only [List.mapM_cons, resVal, hval, asAddr, Sem.run_bind, Sem.run_pure, Result.andThen_ok]; rw [hu']; simp only [Result.andThen_ok, h4]⟩

omit hΓ in
theorem tvs_sound : ∀ {vs : List AV} {us : List Value} {l : List TV}, tvs vs = some l → All2 (VR φ) vs us → All2 (VRt φ) l us
  | [], [], l, h, _ => by cases h; trivial
  | v :: vs, u :: us, l, h, ha => by
    obtain ⟨x, hx, h1⟩ := onSome_eq h
    obtain ⟨l', hl, h2⟩ := onSome_eq h1
    cases h2
    exact ⟨VRt_toTV hx ha.1, tvs_sound hl ha.2⟩
omit hΓ in
theorem retV_sound {vs : List AV} {v : AV} {us : Array Value} (h : retV vs = some v) (ha : All2 (VR φ) vs us.toList) : VR φ v (if h : us.size = 1 then us[0] else .tuple us) := by
  have hl : vs.length = us.size := by have := ha.length; simpa using this
  unfold retV at h
  split at h
  · rename_i x
    cases h
    have h1 : us.size = 1 := by simpa using hl.symm
    rw [dif_pos h1]
    obtain ⟨u, hu, hr⟩ := ha.get (i := 0) (a := v) rfl
    have : us[0] = u := by
      have h2 : us.toList[0]? = some us[0] := by simp
      rw [h2] at hu; exact Option.some.inj hu
    rw [this]; exact hr
  · rename_i hne
    obtain ⟨l, hl', h1⟩ := onSome_eq h
    cases h1
    have h1 : ¬ us.size = 1 := by
      intro h1
      rw [h1] at hl
      cases vs with
      | nil => simp at hl
      | cons a r => cases r with
        | nil => exact hne a rfl
        | cons b r => simp at hl
    rw [dif_neg h1]
    exact ⟨us, rfl, tvs_sound hl' ha⟩

theorem fin_sound {fn : Func} {p : AV × St → Prop} {o : Out} (h : R.All p ((finB Γ fn).run o)) (hm : MR base φ o.σ w) {a : Act} (ht : TR φ o.t a.tmps) :
    (o.x = .nm ∨ o.x = .rt) ∧ ∃ u v, (results fn a.tmps).run P w = .ok u w ∧ p (v, o.σ) ∧ VR φ v u := by
  obtain ⟨x, t, σ⟩ := o
  have key : R.All p (onSome ((resB Γ fn.results.toList).run t σ) (fun vs => onSome (retV vs) (fun v => .one (v, σ)) (.err "results")) (.err "results")) → ∃ u v, (results fn a.tmps).run P w = .ok u w ∧ p (v, σ) ∧ VR φ v u := by
    intro h
    obtain ⟨vs, hvs, h1⟩ := R.All.onSome h
    obtain ⟨v, hv, h2⟩ := R.All.onSome h1
    obtain ⟨us, h3, h4⟩ := resB_sound hΓ hm ht hvs
    refine ⟨_, v, ?_, h2, retV_sound (us := us.toArray) hv (by simpa using h3)⟩
    rw [results_eq, Array.mapM_eq_mapM_toList]
    simp only [Sem.run_bind, Sem.run_map, h4, Result.andThen_ok, Sem.run_pure]
  cases x with
  | nm => exact ⟨.inl rfl, key h⟩
  | ex i => exact h.elim
  | rt => exact ⟨.inr rfl, key h⟩

include hmix
theorem callW_ok (hS : ∀ f s, Γ.sum f = some s → SumOk P f s) {pc : Call} (hpc : CallOk P pc) (hN : ∀ f fn c, Γ.fn f = some fn → fn.body = some c → (fn.name == "runtime.NumGoroutine") = false) : ∀ k, CallOk P (callW P Γ pc k)
  | 0 => fun f args σ p h => h.elim
  | k + 1 => by
    intro f args σ p h base φ w us hm ha
    have h : R.All p (onSome (Option.casesOn (Γ.sum f) none (fun s => s (callW P Γ pc k) args σ)) (fun r => r) (ifb (Γ.pure f) (pureA pc f args σ) (joinR σ ((funB P Γ f).run (callW P Γ pc k) args (St.casesOn σ fun h m _ => ⟨h, m, m⟩))))) := h
    have hor : (∃ s r, Γ.sum f = some s ∧ s (callW P Γ pc k) args σ = some r ∧ R.All p r) ∨ R.All p (ifb (Γ.pure f) (pureA pc f args σ) (joinR σ ((funB P Γ f).run (callW P Γ pc k) args (St.casesOn σ fun h m _ => ⟨h, m, m⟩)))) := by
      cases hs : Γ.sum f with
      | none => rw [hs] at h; exact .inr h
      | some s =>
        rw [hs] at h
        have h : R.All p (onSome (s (callW P Γ pc k) args σ) (fun r => r) _) := h
        cases hr : s (callW P Γ pc k) args σ with
        | none => rw [hr] at h; exact .inr h
        | some r => rw [hr] at h; exact .inl ⟨s, r, rfl, hr, h⟩
    rcases hor with ⟨s, r, hs, hr, h⟩ | h
    · exact hS f s hs _ (callW_ok hS hpc hN k) args σ r hr p h base φ w us hm ha
    cases hpf : Γ.pure f with
    | true => rw [hpf] at h; exact pureA_sound hpc h hm ha
    | false =>
    rw [hpf] at h
    have h : R.All p (joinR σ ((funB P Γ f).run (callW P Γ pc k) args (St.casesOn σ fun h m _ => ⟨h, m, m⟩))) := h
    have h0 : R.All p (joinR σ ((funB P Γ f).run (callW P Γ pc k) args ⟨σ.heap, σ.next, σ.next⟩)) := by obtain ⟨a, b, c⟩ := σ; exact h
    have h := joinR_sound h0
    have hm0 := hm
    have hm : MR base φ ⟨σ.heap, σ.next, σ.next⟩ w := by obtain ⟨a, b, c⟩ := σ; exact ⟨hm0.blk, hm0.apart, hm0.fresh, hm0.low, hm0.bl, hm0.void, hm0.vals⟩
    clear h0
    unfold funB at h
    cases hf : Γ.fn f with
    | none => simp only [hf] at h; exact h.elim
    | some fn =>
      simp only [hf] at h
      cases hb : fn.body with
      | none => simp only [hb] at h; exact h.elim
      | some c =>
        simp only [hb, Bx.use_eq] at h
        obtain ⟨hlen, h1⟩ := R.All.ifb h
        rw [ble_iff] at hlen
        have hlen : args.length ≤ fn.ntmps := by simpa using hlen
        have hul : us.size = args.length := by rw [ha.length]; simp
        have hpf := hΓ.fn f fn hf
        refine ⟨⟨fn, c, hpf, hb, hN f fn c hf hb⟩, calls_of_wp hpf hb ?_⟩
        have htr : TR φ (argsT 0 args T.zero) (us ++ Array.replicate (fn.ntmps - us.size) undef) := by
          refine argsT_sound args ha (TR.zero φ _) fun j u hj => ?_
          have hj' : us[j]? = some u := by simpa using hj
          have hlt := (Array.getElem?_eq_some_iff.1 hj').1
          rw [Nat.zero_add, Array.getElem?_append_left hlt]; exact hj'
        refine code_sound hΓ hmix (callW_ok hS hpc hN k) c (n := fn.ntmps) hm htr (by simp; omega) (R.All.bind h1) fun o ψ a' w' hp ht hn hd hst => ?_
        obtain ⟨hx, u, v, h3, h4, h5⟩ := fin_sound hΓ hp hst.mr ht
        have post : a'.defers = [] ∧ ∃ v, (results fn a'.tmps).run P w' = .ok v w' ∧ (∃ u v' τ ψ, (Ending.returned v) = .returned u ∧ p (v', τ) ∧ VR ψ v' u ∧ Stp base φ σ w ψ τ w') := by
          obtain ⟨b, hb1, hb2⟩ := h4
          obtain ⟨χ, h6, h7⟩ := hb2 base φ ψ w w' u hm0 hst h5
          exact ⟨hd, u, h3, u, b.1, b.2, χ, rfl, hb1, h6, h7⟩
        rcases hx with hx | hx <;> rw [hx] <;> exact post

omit hmix hΓ in
theorem noCall_ok : CallOk P noCall := fun _ _ _ _ h => h.elim
omit hmix in
theorem TabOk.plain : TabOk P Γ.plain := ⟨hΓ.ext, hΓ.info, hΓ.fn⟩
omit hmix in
theorem TabOk.low : TabOk P Γ.low := ⟨hΓ.ext, hΓ.info, hΓ.fn⟩
theorem callN_ok (hS : ∀ f s, Γ.sum f = some s → SumOk P f s) (hN : ∀ f fn c, Γ.fn f = some fn → fn.body = some c → (fn.name == "runtime.NumGoroutine") = false) (k : Nat) : CallOk P (callN P Γ k) :=
  callW_ok hΓ hmix hS (callW_ok (Γ := Γ.low) (TabOk.low hΓ) hmix hS (callW_ok (Γ := Γ.plain) (TabOk.plain hΓ) hmix hS noCall_ok hN 20) hN 60) hN k

omit hΓ hmix in
theorem MR.facts (w : World) (ρ : Nat → Int) (str : Nat → ByteArray) {F : List Fact} (hF : ∀ f ∈ F, f.holds ρ str) : MR w.heap.size ⟨fun _ => none, fun _ => 0, ρ, str, fun _ _ => none⟩ (St.start F) w := by
  have hget' : ∀ b, hget (St.start F) b = if b = 0 then .facts F else .none := by
    intro b
    unfold St.start
    rw [hget_mk]
    by_cases e : b = 0
    · subst e; rw [if_pos rfl]; exact getH_hput_same (by omega) _ _
    · rw [if_neg e, getH_hput_ne e]; exact getH_zero b
  refine ⟨fun b => ?_, (fun b c g o o' _ _ _ h => by cases h), fun _ _ => rfl, (fun _ _ _ h => by cases h), Nat.le_refl _, fun b hb => ?_, fun _ _ => rfl⟩
  · rw [hget']
    by_cases e : b = 0
    · rw [if_pos e]; exact ⟨rfl, hF⟩
    · rw [if_neg e]; trivial
  · have hb : 2 ≤ b + 1 := hb
    rw [hget', if_neg (by omega)]

/-- A run: what the evaluator tells of a call, told of the model. -/
theorem run_closed (hS : ∀ f s, Γ.sum f = some s → SumOk P f s) (hN : ∀ f fn c, Γ.fn f = some fn → fn.body = some c → (fn.name == "runtime.NumGoroutine") = false) {k : Nat} {f : FuncId} {args : List AV} {us : Array Value} {p : AV → Bool} {F : List Fact}
    (h : R.All (fun r => p r.1 = true) (callN P Γ k f args (St.start F))) (ρ : Nat → Int) (str : Nat → ByteArray) (hF : ∀ f ∈ F, f.holds ρ str) (ha : All2 (VR ⟨fun _ => none, fun _ => 0, ρ, str, fun _ _ => none⟩) args us.toList) (w : World) :
    Calls P f us w fun e w' => ∃ u v φ, e = .returned u ∧ p v = true ∧ VR φ v u ∧ Go.RowKit.Below w.heap.size w w' := by
  obtain ⟨_, hc⟩ := callN_ok hΓ hmix hS hN k f args (St.start F) (fun r => p r.1 = true) h w.heap.size ⟨fun _ => none, fun _ => 0, ρ, str, fun _ _ => none⟩ w us (MR.facts w ρ str hF) ha
  exact hc.mono fun e w' ⟨u, v, τ, ψ, h1, h2, h3, h4⟩ => ⟨u, v, ψ, h1, h2, h3, h4.below (MR.facts w ρ str hF)⟩
end
end Go.Ev
