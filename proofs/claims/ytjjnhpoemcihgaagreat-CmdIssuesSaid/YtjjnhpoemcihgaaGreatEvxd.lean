/-
  Loops over maps: what a round leaves untouched; states told anew at the head.
-/
import Derived.Test.YtjjnhpoemcihgaaGreatEvxb
namespace Go.Ev

/-- All that comes, if it comes. -/
def R.Each {α : Type} (q : α → Prop) : R α → Prop
  | .err _ => True
  | .one a => q a
  | .many l => ∀ a ∈ l, q a
theorem R.Each.app {α : Type} {q : α → Prop} {r s : R α} (h1 : R.Each q r) (h2 : R.Each q s) : R.Each q (R.app r s) := by
  cases r <;> cases s <;> simp only [R.app, R.Each] at h1 h2 ⊢ <;> try trivial
  · intro a ha; simp at ha; rcases ha with rfl | rfl <;> assumption
  · intro a ha; simp at ha; rcases ha with rfl | ha; assumption; exact h2 a ha
  · intro a ha; simp at ha; rcases ha with ha | rfl; exact h1 a ha; assumption
  · intro a ha; simp at ha; rcases ha with ha | ha; exact h1 a ha; exact h2 a ha
theorem R.Each.all {α β : Type} {q : β → Prop} {f : α → R β} : ∀ {l : List α}, (∀ a ∈ l, R.Each q (f a)) → R.Each q (R.all f l)
  | [], _ => fun a ha => by cases ha
  | x :: l, h => R.Each.app (h x (by simp)) (R.Each.all fun a ha => h a (by simp [ha]))
theorem R.Each.bind {α β : Type} {p : α → Prop} {q : β → Prop} {r : R α} {f : α → R β} (hr : R.Each p r) (h : ∀ a, p a → R.Each q (f a)) : R.Each q (R.bind r f) := by
  cases r with
  | err s => trivial
  | one a => exact h a hr
  | many l => exact R.Each.all fun a ha => h a (hr a ha)
theorem R.Each.triv {α : Type} (r : R α) : R.Each (fun _ => True) r := by cases r <;> simp [R.Each]
theorem R.Each.bind' {α β : Type} {q : β → Prop} {r : R α} {f : α → R β} (h : ∀ a, R.Each q (f a)) : R.Each q (R.bind r f) := R.Each.bind (R.Each.triv r) fun a _ => h a
theorem R.Each.mono {α : Type} {p q : α → Prop} (h : ∀ a, p a → q a) {r : R α} (hr : R.Each p r) : R.Each q r := by
  cases r with
  | err s => trivial
  | one a => exact h a hr
  | many l => exact fun a ha => h a (hr a ha)
theorem R.All.and {α : Type} {p q : α → Prop} {r : R α} (h1 : R.All p r) (h2 : R.Each q r) : R.All (fun a => p a ∧ q a) r := by
  cases r with
  | err s => exact h1
  | one a => exact ⟨h1, h2⟩
  | many l => exact fun a ha => ⟨h1 a ha, h2 a ha⟩
theorem R.Each.onSome {α β : Type} {q : α → Prop} {o : Option β} {k : β → R α} {e : R α} (h : ∀ b, R.Each q (k b)) (he : R.Each q e) : R.Each q (Go.Ev.onSome o k e) := by
  cases o with
  | none => exact he
  | some b => exact h b
theorem R.Each.ifb {α : Type} {q : α → Prop} {c : Bool} {r s : R α} (h1 : R.Each q r) (h2 : R.Each q s) : R.Each q (Go.Ev.ifb c r s) := by cases c <;> assumption
theorem R.Each.onB {α : Type} {q : α → Prop} {v : AV} {k : Bool → R α} {e : R α} (h : ∀ b, R.Each q (k b)) (he : R.Each q e) : R.Each q (v.onB k e) := by
  cases v with
  | a l => exact he
  | t l => exact he
  | c x => cases x <;> first | exact h _ | exact he
theorem addF_each {α : Type} {q : α → Prop} {σ : St} {l : List Fact} {k : St → R α} (h : ∀ σ, R.Each q (k σ)) : R.Each q (addF σ l k) := by
  unfold addF
  cases hget σ 0 <;> first | trivial | exact h _
theorem forkB_each {α : Type} {q : α → Prop} {σ : St} {v : AV} {s : String} {k : Bool → St → R α} (h : ∀ b σ, R.Each q (k b σ)) : R.Each q (forkB σ v s k) := by
  have ne : ∀ c l b, R.Each q (forkNe σ c l (k b)) := fun c l b => by
    unfold forkNe
    exact R.Each.ifb (addF_each (h b)) (R.Each.ifb (addF_each (h b)) (R.Each.app (addF_each (h b)) (addF_each (h b))))
  unfold forkB
  cases v with
  | a l => trivial
  | t l => trivial
  | c x =>
    cases x with
    | o x =>
      cases x with
      | sb m c l =>
        match m with
        | 0 => exact R.Each.onSome (fun b => h b σ) (R.Each.app (addF_each (h true)) (addF_each (h false)))
        | 1 => exact R.Each.onSome (fun b => h b σ) (R.Each.app (addF_each (h true)) (ne c l false))
        | m + 2 => exact R.Each.onSome (fun b => h (!b) σ) (R.Each.app (addF_each (h false)) (ne c l true))
      | _ => trivial
    | _ => trivial

/-- Slots that are not among these stay. -/
def Stays (ws : List Nat) (t t' : T) : Prop := ∀ d, d ∉ ws → (getT d).run t' = (getT d).run t
theorem Stays.refl (ws : List Nat) (t : T) : Stays ws t t := fun _ _ => rfl
theorem Stays.trans {ws : List Nat} {t t' t'' : T} (h : Stays ws t t') (k : Stays ws t' t'') : Stays ws t t'' := fun d hd => by rw [k d hd, h d hd]
theorem Stays.mono {ws ws' : List Nat} {t t' : T} (h : Stays ws t t') (hs : ∀ d ∈ ws, d ∈ ws') : Stays ws' t t' := fun d hd => h d fun hw => hd (hs d hw)
theorem putB_stays {n : Nat} {dst : Option Tmp} {v : AV} {t : T} {ws : List Nat} (h : ∀ d, dst = some d → d ∈ ws) : Stays ws t ((putB n dst).run v t) := by
  intro d hd
  cases dst with
  | none => rfl
  | some e =>
    unfold putB
    cases hb : Nat.blt e n with
    | false => simp only [hb]
    | true => simp only [hb]; exact getT_putT_ne (by intro e'; subst e'; exact hd (h d rfl)) v t

section
variable {P : Program} {Γ : Tab} {n : Nat} {call : Call}

theorem op1B0_stays {o : Oper} {k : OpsB} {ws : List Nat} (ho : ∀ d, o.dst = some d → d ∈ ws) (hk : ∀ t σ, R.Each (fun ts => Stays ws t ts.t) (k.run call t σ)) (t : T) (σ : St) : R.Each (fun ts => Stays ws t ts.t) ((op1B0 P Γ n o k).run call t σ) := by
  have go : ∀ v σ, R.Each (fun ts => Stays ws t ts.t) (k.run call ((putB n o.dst).run v t) σ) := fun v σ => (hk _ σ).mono fun ts h => (putB_stays ho).trans h
  unfold op1B0
  cases opB P Γ o with
  | p f => simp only [Bx.use_eq]; exact R.Each.onSome (fun v => go v σ) trivial
  | q f => simp only [Bx.use_eq]; exact R.Each.onSome (fun v => go v σ) trivial
  | n f => simp only [Bx.use_eq]; exact R.Each.onSome (fun x => R.Each.onSome (fun r => go r.1 r.2) trivial) trivial
  | w f => simp only [Bx.use_eq]; exact R.Each.onSome (fun r => go r.1 r.2) trivial
  | c f => simp only [Bx.use_eq]; exact R.Each.bind' fun r => go r.1 r.2
  | bad s => trivial
theorem op1B_stays {o : Oper} {k : OpsB} {ws : List Nat} (ho : ∀ d, o.dst = some d → d ∈ ws) (hk : ∀ t σ, R.Each (fun ts => Stays ws t ts.t) (k.run call t σ)) (t : T) (σ : St) : R.Each (fun ts => Stays ws t ts.t) ((op1B P Γ n o k).run call t σ) := by
  unfold op1B
  cases forkOf Γ o with
  | none => exact op1B0_stays ho hk t σ
  | some g =>
    simp only [Bx.use_eq]
    exact R.Each.onSome (fun e => forkB_each fun _ σ => op1B0_stays ho hk t σ) (op1B0_stays ho hk t σ)
theorem opsB_stays {ops : List Oper} {ws : List Nat} : ∀ (l : List Oper), (∀ o ∈ l, ∀ d, o.dst = some d → d ∈ ws) → ∀ t σ, R.Each (fun ts => Stays ws t ts.t) ((opsB P Γ n ops l).run call t σ)
  | [], _, t, σ => Stays.refl ws t
  | o :: l, hl, t, σ => by
    have ho := hl o (by simp)
    have ih := opsB_stays (ops := ops) l fun o' h => hl o' (by simp [h])
    have one := op1B_stays (P := P) (Γ := Γ) (n := n) (call := call) (k := opsB P Γ n ops l) ho ih
    have skip : ∀ σ, R.Each (fun ts => Stays ws t ts.t) ((opsB P Γ n ops l).run call ((putB n o.dst).run (.t []) t) σ) := fun σ => (ih _ σ).mono fun ts h => (putB_stays ho).trans h
    unfold opsB
    cases o.guard with
    | none => exact one t σ
    | some g =>
      obtain ⟨j, want⟩ := g
      simp only
      cases nth j ops with
      | none => trivial
      | some g =>
        simp only
        cases hd : g.dst with
        | none => trivial
        | some d =>
          simp only [Bx.use_eq]
          cases (getT d).run t with
          | a l => trivial
          | t l => exact skip σ
          | c x => exact R.Each.onB (fun b => R.Each.ifb (one t σ) (skip σ)) (forkB_each fun b σ => R.Each.ifb (one t σ) (skip σ))

theorem draw1B_stays {i m : Nat} {o : Oper} {k : DrawB} {ws : List Nat} (ho : ∀ d, o.dst = some d → d ∈ ws) (hk : ∀ t σ l, R.Each (fun ts => Stays ws t ts.t) (k.run call t σ l)) (t : T) (σ : St) (l : List Pend) : R.Each (fun ts => Stays ws t ts.t) ((draw1B P Γ n i m o k).run call t σ l) := by
  have go : ∀ v σ l, R.Each (fun ts => Stays ws t ts.t) (k.run call ((putB n o.dst).run v t) σ l) := fun v σ l => (hk _ σ l).mono fun ts h => (putB_stays ho).trans h
  unfold draw1B
  cases opB P Γ o with
  | p f => simp only [Bx.use_eq]; exact R.Each.onSome (fun v => go v σ l) trivial
  | q f => simp only [Bx.use_eq]; exact R.Each.onSome (fun v => go v σ _) trivial
  | n f => simp only [Bx.use_eq]; exact R.Each.onSome (fun x => R.Each.onSome (fun r => R.Each.ifb (go r.1 r.2 l) trivial) trivial) trivial
  | w f => simp only [Bx.use_eq]; exact R.Each.onSome (fun r => R.Each.ifb (go r.1 r.2 l) trivial) trivial
  | c f => simp only [Bx.use_eq]; exact R.Each.bind' fun r => R.Each.ifb (go r.1 r.2 l) trivial
  | bad s => trivial
theorem drawB_stays {ops : List Oper} {A : List Nat} {ws : List Nat} (hops : ∀ o ∈ ops, ∀ d, o.dst = some d → d ∈ ws) : ∀ (C : List Nat) t σ l, R.Each (fun ts => Stays ws t ts.t) ((drawB P Γ n ops A C).run call t σ l)
  | [], t, σ, l => Stays.refl ws t
  | i :: C, t, σ, l => by
    have ih := drawB_stays (A := A) hops C
    unfold drawB
    cases ho : nth i ops with
    | none => trivial
    | some o =>
      have ho := hops o (by rw [nth_eq] at ho; exact List.mem_of_getElem? ho)
      simp only
      cases nth i A with
      | none => trivial
      | some m =>
        simp only
        have one := draw1B_stays (P := P) (Γ := Γ) (n := n) (call := call) (i := i) (m := m) (k := drawB P Γ n ops A C) ho ih
        have skip : ∀ σ l, R.Each (fun ts => Stays ws t ts.t) ((drawB P Γ n ops A C).run call ((putB n o.dst).run (.t []) t) σ l) := fun σ l => (ih _ σ l).mono fun ts h => (putB_stays ho).trans h
        cases o.guard with
        | none => exact one t σ l
        | some g =>
          obtain ⟨j, want⟩ := g
          simp only
          cases nth j ops with
          | none => trivial
          | some g =>
            simp only
            cases g.dst with
            | none => trivial
            | some d =>
              simp only [Bx.use_eq]
              cases (getT d).run t with
              | a l => trivial
              | t tl => exact skip σ l
              | c x => exact R.Each.onB (fun b => R.Each.ifb (one t σ l) (skip σ l)) (forkB_each fun b σ => R.Each.ifb (R.Each.ifb (one t σ l) (skip σ l)) trivial)
theorem drawnB_stays {ops : List Oper} {ws : List Nat} (hops : ∀ o ∈ ops, ∀ d, o.dst = some d → d ∈ ws) (t : T) (σ : St) : R.Each (fun ts => Stays ws t ts.t) ((drawnB P Γ n ops).run call t σ) := by
  unfold drawnB
  cases masksT ops 0 T.zero with
  | none => trivial
  | some A =>
    simp only
    split
    · simp only [Bx.use_eq]; exact drawB_stays hops _ t σ []
    · trivial
theorem dstsOf_mem {l : List Oper} {o : Oper} (ho : o ∈ l) {d : Nat} (hd : o.dst = some d) : d ∈ dstsOf l := by
  induction l with
  | nil => cases ho
  | cons x l ih =>
    show d ∈ x.dst.toList ++ dstsOf l
    rcases List.mem_cons.1 ho with rfl | ho
    · rw [hd]; simp
    · exact List.mem_append_right _ (ih ho)

theorem loopN_stays {body : T → St → R Out} {ws : List Nat} (hb : ∀ t σ, R.Each (fun o => Stays ws t o.t) (body t σ)) : ∀ k t σ, R.Each (fun o => Stays ws t o.t) (loopN body k t σ)
  | 0, t, σ => trivial
  | k + 1, t, σ => R.Each.bind (hb t σ) fun o ho => by
    obtain ⟨x, t', σ'⟩ := o
    cases x with
    | nm => exact (loopN_stays hb k t' σ').mono fun o h => ho.trans h
    | ex i => exact ho
    | rt => exact ho

theorem both_mem {K : List Nat} {d : Nat} : ∀ {l : List Nat}, d ∈ both K l → d ∈ l
  | [], h => by cases h
  | x :: l, h => by
    unfold both at h
    cases hx : has x K with
    | true => rw [hx] at h; rcases List.mem_cons.1 h with rfl | h; simp; exact List.mem_cons_of_mem _ (both_mem h)
    | false => rw [hx] at h; exact List.mem_cons_of_mem _ (both_mem h)
theorem notHas_mem {K : List Nat} {d : Nat} : ∀ {l : List Nat}, d ∈ notHas K l → d ∈ l
  | [], h => by cases h
  | x :: l, h => by
    unfold notHas at h
    cases hx : has x K with
    | true => rw [hx] at h; exact List.mem_cons_of_mem _ (notHas_mem h)
    | false => rw [hx] at h; rcases List.mem_cons.1 h with rfl | h; simp; exact List.mem_cons_of_mem _ (notHas_mem h)
theorem dedup_mem {d : Nat} : ∀ {l : List Nat}, d ∈ dedup l → d ∈ l
  | [], h => by cases h
  | x :: l, h => by
    unfold dedup at h
    cases hx : has x l with
    | true => rw [hx] at h; exact List.mem_cons_of_mem _ (dedup_mem h)
    | false => rw [hx] at h; rcases List.mem_cons.1 h with rfl | h; simp; exact List.mem_cons_of_mem _ (dedup_mem h)
theorem carried_mem {b : Code} {d : Nat} (h : d ∈ carriedC b) : d ∈ writesC b := dedup_mem (both_mem h)
theorem killed_mem {b : Code} {d : Nat} (h : d ∈ killedC b) : d ∈ writesC b := dedup_mem (notHas_mem h)

theorem has_dedup {d : Nat} : ∀ {l : List Nat}, d ∈ l → d ∈ dedup l
  | [], h => by cases h
  | x :: l, h => by
    unfold dedup
    cases hx : has x l with
    | true =>
      have hxl : x ∈ l := by rw [has_mem] at hx; simpa using hx
      rcases List.mem_cons.1 h with rfl | h
      · exact has_dedup hxl
      · exact has_dedup h
    | false =>
      rcases List.mem_cons.1 h with rfl | h
      · simp [ifb]
      · simp [ifb, has_dedup h]
theorem both_or {K : List Nat} {d : Nat} : ∀ {l : List Nat}, d ∈ l → d ∈ both K l ∨ d ∈ notHas K l
  | [], h => by cases h
  | x :: l, h => by
    unfold both notHas
    cases hx : has x K with
    | true =>
      rcases List.mem_cons.1 h with rfl | h
      · left; simp [ifb]
      · rcases both_or (K := K) h with h | h
        · left; simp [ifb, h]
        · right; simp [ifb, h]
    | false =>
      rcases List.mem_cons.1 h with rfl | h
      · right; simp [ifb]
      · rcases both_or (K := K) h with h | h
        · left; simp [ifb, h]
        · right; simp [ifb, h]
theorem carried_or_killed {b : Code} {d : Nat} (h : d ∈ writesC b) : d ∈ carriedC b ∨ d ∈ killedC b := both_or (has_dedup h)
theorem putsB_stays {ws : List Nat} : ∀ {l : List Nat}, (∀ d ∈ l, d ∈ ws) → ∀ vs t, Stays ws t ((putsB l).run vs t)
  | [], _, vs, t => by unfold putsB; exact Stays.refl ws t
  | d :: l, h, vs, t => by
    unfold putsB
    simp only [Bx.use_eq]
    cases vs with
    | nil => exact Stays.refl ws t
    | cons v vs =>
      refine Stays.trans (t' := (putT d).run (ofTV v) t) (fun e he => getT_putT_ne (by intro e'; subst e'; exact he (h e (by simp))) _ _) (putsB_stays (fun e he => h e (by simp [he])) vs _)
theorem killB_stays {ws : List Nat} : ∀ {l : List Nat}, (∀ d ∈ l, d ∈ ws) → ∀ t, Stays ws t ((killB l).run t)
  | [], _, t => by unfold killB; exact Stays.refl ws t
  | d :: l, h, t => by
    unfold killB
    simp only [Bx.use_eq]
    refine Stays.trans (t' := (putT d).run .any t) (fun e he => getT_putT_ne (by intro e'; subst e'; exact he (h e (by simp))) _ _) (killB_stays (fun e he => h e (by simp [he])) _)
theorem buildH_stays {ws cs : List Nat} (hc : ∀ d ∈ cs, d ∈ ws) {t : T} {h : Hp} {m : Nat} {k : Key} {ts : TS} (hb : buildH (putsB cs).run t h m k = some ts) : Stays ws t ts.t := by
  obtain ⟨r, _, h1⟩ := onSome_eq hb
  cases h1
  exact putsB_stays hc _ t

theorem goneOf_nm (tell : T → St → Option Key) (t : T) (σ : St) (l : List Out) : goneOf tell (⟨.nm, t, σ⟩ :: l) =
    match tell t σ with
    | some q => ⟨(goneOf tell l).done, match hasKey q (goneOf tell l).keys with | true => (goneOf tell l).keys | false => q :: (goneOf tell l).keys, (goneOf tell l).rest⟩
    | none => ⟨(goneOf tell l).done, (goneOf tell l).keys, ⟨t, σ⟩ :: (goneOf tell l).rest⟩ := by
  rw [goneOf]
  cases goneOf tell l with
  | mk d k r =>
    simp only
    cases tell t σ with
    | none => rfl
    | some q =>
      simp only [onSome_some]
      cases hasKey q k <;> rfl
theorem goneOf_ex (tell : T → St → Option Key) (i : Nat) (t : T) (σ : St) (l : List Out) : goneOf tell (⟨.ex i, t, σ⟩ :: l) = ⟨⟨.ex i, t, σ⟩ :: (goneOf tell l).done, (goneOf tell l).keys, (goneOf tell l).rest⟩ := by
  rw [goneOf]
theorem goneOf_rt (tell : T → St → Option Key) (t : T) (σ : St) (l : List Out) : goneOf tell (⟨.rt, t, σ⟩ :: l) = ⟨⟨.rt, t, σ⟩ :: (goneOf tell l).done, (goneOf tell l).keys, (goneOf tell l).rest⟩ := by
  rw [goneOf]
theorem goneOf_each {tell : T → St → Option Key} {q : T → Prop} : ∀ {os : List Out}, (∀ o ∈ os, q o.t) → (∀ o ∈ (goneOf tell os).done, q o.t) ∧ ∀ s ∈ (goneOf tell os).rest, q s.t
  | [], _ => ⟨fun o ho => absurd ho (by simp [goneOf]), fun s hs => absurd hs (by simp [goneOf])⟩
  | ⟨x, t, σ⟩ :: l, h => by
    obtain ⟨h1, h2⟩ := goneOf_each (tell := tell) (q := q) (os := l) fun o' ho' => h o' (by simp [ho'])
    have h0 : q t := h ⟨x, t, σ⟩ (by simp)
    have cons : ∀ o : Out, o.t = t → ∀ o' ∈ o :: (goneOf tell l).done, q o'.t := fun o ho o' ho' => by
      rcases List.mem_cons.1 ho' with rfl | ho'
      · rw [ho]; exact h0
      · exact h1 o' ho'
    cases x with
    | nm =>
      rw [goneOf_nm]
      cases tell t σ with
      | none =>
        refine ⟨h1, fun s hs => ?_⟩
        rcases List.mem_cons.1 hs with rfl | hs
        · exact h0
        · exact h2 s hs
      | some ky => exact ⟨h1, h2⟩
    | ex i => rw [goneOf_ex]; exact ⟨cons _ rfl, h2⟩
    | rt => rw [goneOf_rt]; exact ⟨cons _ rfl, h2⟩
theorem hasKey_mem {q : Key} : ∀ {ks : List Key}, hasKey q ks = true → ∃ k ∈ ks, sameKey q k = true
  | [], h => by cases h
  | k :: ks, h => by
    unfold hasKey at h
    cases hs : sameKey q k with
    | true => exact ⟨k, by simp, hs⟩
    | false => rw [hs] at h; obtain ⟨k', h1, h2⟩ := hasKey_mem h; exact ⟨k', by simp [h1], h2⟩
/-- Where an outcome of a round went. -/
theorem goneOf_spec0 {tell : T → St → Option Key} : ∀ (os : List Out) (o : Out), o ∈ os → match o.x with
    | .nm => (∃ q q', tell o.t o.σ = some q ∧ q' ∈ (goneOf tell os).keys ∧ (q' = q ∨ sameKey q q' = true)) ∨ (⟨o.t, o.σ⟩ : TS) ∈ (goneOf tell os).rest
    | _ => o ∈ (goneOf tell os).done
  | [], o, h => by cases h
  | ⟨x, t, σ⟩ :: l, o, h => by
    have ih := goneOf_spec0 (tell := tell) l
    have sub : (∀ o ∈ (goneOf tell l).done, o ∈ (goneOf tell (⟨x, t, σ⟩ :: l)).done) ∧ (∀ k ∈ (goneOf tell l).keys, k ∈ (goneOf tell (⟨x, t, σ⟩ :: l)).keys) ∧ ∀ s ∈ (goneOf tell l).rest, s ∈ (goneOf tell (⟨x, t, σ⟩ :: l)).rest := by
      cases x with
      | nm =>
        rw [goneOf_nm]
        cases tell t σ with
        | none => exact ⟨fun _ h => h, fun _ h => h, fun _ h => List.mem_cons_of_mem _ h⟩
        | some q =>
          refine ⟨fun _ h => h, fun k h => ?_, fun _ h => h⟩
          show k ∈ (match hasKey q (goneOf tell l).keys with | true => (goneOf tell l).keys | false => q :: (goneOf tell l).keys)
          cases hasKey q (goneOf tell l).keys with
          | true => exact h
          | false => exact List.mem_cons_of_mem _ h
      | ex i => rw [goneOf_ex]; exact ⟨fun _ h => List.mem_cons_of_mem _ h, fun _ h => h, fun _ h => h⟩
      | rt => rw [goneOf_rt]; exact ⟨fun _ h => List.mem_cons_of_mem _ h, fun _ h => h, fun _ h => h⟩
    rcases List.mem_cons.1 h with rfl | h
    · cases x with
      | nm =>
        show (∃ q q', tell t σ = some q ∧ q' ∈ _ ∧ _) ∨ (⟨t, σ⟩ : TS) ∈ _
        rw [goneOf_nm]
        cases ht : tell t σ with
        | none => right; exact List.mem_cons_self ..
        | some q =>
          left
          cases hk : hasKey q (goneOf tell l).keys with
          | true => obtain ⟨q', h1, h2⟩ := hasKey_mem hk; exact ⟨q, q', rfl, by simp only [hk]; exact h1, .inr h2⟩
          | false => exact ⟨q, q, rfl, by simp only [hk]; exact List.mem_cons_self .., .inl rfl⟩
      | ex i => show _ ∈ _; rw [goneOf_ex]; exact List.mem_cons_self ..
      | rt => show _ ∈ _; rw [goneOf_rt]; exact List.mem_cons_self ..
    · have := ih o h
      obtain ⟨xo, to, σo⟩ := o
      cases xo with
      | nm =>
        rcases this with ⟨q, q', h1, h2, h3⟩ | h1
        · exact .inl ⟨q, q', h1, sub.2.1 q' h2, h3⟩
        · exact .inr (sub.2.2 _ h1)
      | ex i => exact sub.1 _ this
      | rt => exact sub.1 _ this
theorem buildAll_mem {build : Key → Option TS} : ∀ {l : List Key} {r : List TS}, buildAll build l = some r → ∀ s ∈ r, ∃ k ∈ l, build k = some s
  | [], r, h, s, hs => by cases h; cases hs
  | k :: l, r, h, s, hs => by
    obtain ⟨x, hx, h1⟩ := onSome_eq h
    obtain ⟨r', hr, h2⟩ := onSome_eq h1
    cases h2
    rcases List.mem_cons.1 hs with rfl | hs
    · exact ⟨k, by simp, hx⟩
    · obtain ⟨k', h3, h4⟩ := buildAll_mem hr s hs; exact ⟨k', by simp [h3], h4⟩
theorem buildAll_of {build : Key → Option TS} : ∀ {l : List Key} {r : List TS}, buildAll build l = some r → ∀ k ∈ l, ∃ s ∈ r, build k = some s
  | [], r, h, s, hs => by cases hs
  | k :: l, r, h, k', hk => by
    obtain ⟨x, hx, h1⟩ := onSome_eq h
    obtain ⟨r', hr, h2⟩ := onSome_eq h1
    cases h2
    rcases List.mem_cons.1 hk with rfl | hk
    · exact ⟨x, by simp, hx⟩
    · obtain ⟨s, h3, h4⟩ := buildAll_of hr k' hk; exact ⟨s, by simp [h3], h4⟩

/-- The outcomes of all states together. -/
def outs {α : Type} : R α → Option (List α)
  | .err _ => none
  | .one a => some [a]
  | .many l => some l
theorem each_outs {α : Type} {q : α → Prop} {r : R α} {l : List α} (h : R.Each q r) (hl : outs r = some l) : ∀ a ∈ l, q a := by
  cases r with
  | err s => cases hl
  | one a => cases hl; intro b hb; simp at hb; subst hb; exact h
  | many m => cases hl; exact h
theorem all_outs {α : Type} {r : R α} {l : List α} (hl : outs r = some l) : R.All (fun a => a ∈ l) r := by
  cases r with
  | err s => cases hl
  | one a => cases hl; exact List.mem_singleton.2 rfl
  | many m => cases hl; exact fun a ha => ha

theorem loopH_stays {body : T → St → R Out} {tell : T → St → Option Key} {build : Key → Option TS} {ws : List Nat} {t0 : T} (hb : ∀ t σ, R.Each (fun o => Stays ws t o.t) (body t σ)) (hbuild : ∀ k ts, build k = some ts → Stays ws t0 ts.t) :
    ∀ k (l : List TS), (∀ s ∈ l, Stays ws t0 s.t) → R.Each (fun o => Stays ws t0 o.t) (loopH body tell build k l)
  | 0, l, _ => trivial
  | k + 1, l, hl => by
    unfold loopH
    have hall : R.Each (fun o : Out => Stays ws t0 o.t) (R.all (fun s : TS => TS.casesOn s fun t σ => body t σ) l) :=
      R.Each.all fun s hs => by obtain ⟨t, σ⟩ := s; exact (hb t σ).mono fun o ho => (hl _ hs).trans ho
    generalize R.all (fun s : TS => TS.casesOn s fun t σ => body t σ) l = r at hall
    have main : ∀ os : List Out, (∀ o ∈ os, Stays ws t0 o.t) → R.Each (fun o => Stays ws t0 o.t) (match goneOf tell os with
      | ⟨d, k', r⟩ => onSome (buildAll build k') (fun b => match b ++ r with
        | [] => .many d
        | next => R.app (.many d) (loopH body tell build k next)) (.err "head")) := by
      intro os hos
      obtain ⟨h1, h2⟩ := goneOf_each (tell := tell) (q := Stays ws t0) hos
      cases hg : goneOf tell os with
      | mk d ks r =>
        rw [hg] at h1 h2
        simp only
        cases hba : buildAll build ks with
        | none => trivial
        | some b =>
          simp only [onSome_some]
          have hn : ∀ s ∈ b ++ r, Stays ws t0 s.t := fun s hs => by
            rcases List.mem_append.1 hs with hs | hs
            · obtain ⟨ky, _, h3⟩ := buildAll_mem hba s hs; exact hbuild ky s h3
            · exact h2 s hs
          generalize b ++ r = next at hn
          cases next with
          | nil => exact h1
          | cons s next => exact R.Each.app (r := .many d) h1 (loopH_stays hb hbuild k _ hn)
    cases r with
    | err s => trivial
    | one o => exact main [o] fun o' ho' => by simp at ho'; subst ho'; exact hall
    | many os => exact main os hall

theorem codeB_stays : ∀ (c : Code) t σ, R.Each (fun o => Stays (writesC c) t o.t) ((codeB P Γ n c).run call t σ) := by
  intro c
  induction c with
  | skip => intro t σ; exact Stays.refl _ t
  | region id ops draw =>
    intro t σ
    have hops : ∀ o ∈ ops.toList, ∀ d, o.dst = some d → d ∈ writesC (.region id ops draw) := fun o ho d hd => dstsOf_mem ho hd
    cases draw with
    | false => exact R.Each.bind (opsB_stays (P := P) (Γ := Γ) (n := n) (call := call) (ops := ops.toList) ops.toList hops t σ) fun ts h => by obtain ⟨t', σ'⟩ := ts; exact h
    | true => exact R.Each.bind (drawnB_stays (P := P) (Γ := Γ) (n := n) (call := call) hops t σ) fun ts h => by obtain ⟨t', σ'⟩ := ts; exact h
  | seq a b iha ihb =>
    intro t σ
    refine R.Each.bind (iha t σ) fun o ho => ?_
    obtain ⟨x, t', σ'⟩ := o
    have ho2 : Stays (writesC (.seq a b)) t t' := Stays.mono (ws' := writesC (.seq a b)) ho fun d hd => List.mem_append_left (writesC b) hd
    clear ho
    cases x with
    | nm => exact (ihb t' σ').mono fun o h => ho2.trans (Stays.mono (ws' := writesC (.seq a b)) h fun d hd => List.mem_append_right (writesC a) hd)
    | ex i => exact ho2
    | rt => exact ho2
  | cond c a b iha ihb =>
    intro t σ
    have ha : ∀ σ, R.Each (fun o => Stays (writesC (.cond c a b)) t o.t) ((codeB P Γ n a).run call t σ) := fun σ => (iha t σ).mono fun o h => Stays.mono (ws' := writesC (.cond c a b)) h fun d hd => List.mem_append_left (writesC b) hd
    have hb : ∀ σ, R.Each (fun o => Stays (writesC (.cond c a b)) t o.t) ((codeB P Γ n b).run call t σ) := fun σ => (ihb t σ).mono fun o h => Stays.mono (ws' := writesC (.cond c a b)) h fun d hd => List.mem_append_right (writesC a) hd
    show R.Each _ (((operB c).use fun f => (⟨fun call t σ => (f t).onB (fun x => ifb x ((codeB P Γ n a).run call t σ) ((codeB P Γ n b).run call t σ)) (forkB σ (f t) "cond" fun x σ => ifb x ((codeB P Γ n a).run call t σ) ((codeB P Γ n b).run call t σ))⟩ : Bx (Call → T → St → R Out))).run call t σ)
    rw [Bx.use_eq]
    exact R.Each.onB (fun x => R.Each.ifb (ha σ) (hb σ)) (forkB_each fun x σ => R.Each.ifb (ha σ) (hb σ))
  | block id b ih =>
    intro t σ
    refine R.Each.bind (ih t σ) fun o ho => ?_
    obtain ⟨x, t', σ'⟩ := o
    cases x <;> exact ho
  | loop b ih =>
    intro t σ
    have hN : ∀ k t σ, R.Each (fun o => Stays (writesC (.loop b)) t o.t) (loopN ((codeB P Γ n b).run call) k t σ) := loopN_stays ih
    unfold codeB
    cases firstNext b with
    | none => exact hN _ t σ
    | some it =>
      simp only
      unfold loopA
      simp only [Bx.use_eq]
      cases hv : (getT it).run t with
      | a l => exact hN _ t σ
      | t l => exact hN _ t σ
      | c x =>
        cases x with
        | p r off =>
          obtain ⟨h, nx, d⟩ := σ
          refine R.Each.ifb (R.Each.bind (loopH_stays (ws := writesC b) (t0 := t) ih (fun k ts hk => ?_) _ _ fun s hs => ?_) fun o ho => ?_) (hN _ t _)
          · exact (killB_stays (fun d hd => killed_mem hd) t).trans (buildH_stays (fun d hd => carried_mem hd) hk)
          · simp at hs; subst hs; exact Stays.refl _ t
          · obtain ⟨x, t', h', n', e'⟩ := o; exact ho
        | _ => exact hN _ t σ
  | exit id => intro t σ; exact Stays.refl _ t
  | ret => intro t σ; exact Stays.refl _ t
  | _ => intro t σ; trivial
end
end Go.Ev
