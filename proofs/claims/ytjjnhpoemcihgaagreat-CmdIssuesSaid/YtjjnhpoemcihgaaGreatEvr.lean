/-
  Steps of an iterator; calls; one operation.
-/
import Derived.Test.YtjjnhpoemcihgaaGreatEvq
namespace Go.Ev

/-- All that may come. -/
def R.All {α : Type} (p : α → Prop) : R α → Prop
  | .err _ => False
  | .one a => p a
  | .many l => ∀ a ∈ l, p a
theorem R.All.app {α : Type} {p : α → Prop} {r s : R α} (h : R.All p (R.app r s)) : R.All p r ∧ R.All p s := by
  cases r <;> cases s <;> simp only [R.app, R.All] at h ⊢ <;> try exact h.elim
  · exact ⟨h _ (by simp), h _ (by simp)⟩
  · exact ⟨h _ (by simp), fun a ha => h a (by simp [ha])⟩
  · exact ⟨fun a ha => h a (by simp [ha]), h _ (by simp)⟩
  · exact ⟨fun a ha => h a (by simp [ha]), fun a ha => h a (by simp [ha])⟩
theorem R.All.all {α β : Type} {p : β → Prop} {f : α → R β} : ∀ {l : List α}, R.All p (R.all f l) → ∀ a ∈ l, R.All p (f a)
  | [], _, a, ha => by cases ha
  | x :: l, h, a, ha => by
    obtain ⟨h1, h2⟩ := R.All.app h
    rcases List.mem_cons.1 ha with rfl | ha
    · exact h1
    · exact R.All.all h2 a ha
theorem R.All.bind {α β : Type} {p : β → Prop} {r : R α} {f : α → R β} (h : R.All p (R.bind r f)) : R.All (fun a => R.All p (f a)) r := by
  cases r with
  | err s => exact h
  | one a => exact h
  | many l => exact R.All.all h
theorem R.All.mono {α : Type} {p q : α → Prop} (hpq : ∀ a, p a → q a) {r : R α} (h : R.All p r) : R.All q r := by
  cases r with
  | err s => exact h
  | one a => exact hpq a h
  | many l => exact fun a ha => hpq a (h a ha)
theorem R.All.onSome {α β : Type} {p : α → Prop} {o : Option β} {k : β → R α} {s : String} (h : R.All p (onSome o k (.err s))) : ∃ b, o = some b ∧ R.All p (k b) := by
  cases o with
  | none => exact h.elim
  | some b => exact ⟨b, rfl, h⟩
theorem R.All.onP {α : Type} {p : α → Prop} {v : AV} {k : Nat → Nat → R α} {s : String} (h : R.All p (v.onP k (.err s))) : ∃ b o, v = .ptr b o ∧ R.All p (k b o) := by
  cases v with
  | a l => exact h.elim
  | t l => exact h.elim
  | c x => cases x <;> first | exact ⟨_, _, rfl, h⟩ | exact h.elim
theorem R.All.onB {α : Type} {p : α → Prop} {v : AV} {k : Bool → R α} {s : String} (h : R.All p (v.onB k (.err s))) : ∃ b, v = .bool b ∧ R.All p (k b) := by
  cases v with
  | a l => exact h.elim
  | t l => exact h.elim
  | c x => cases x <;> first | exact ⟨_, rfl, h⟩ | exact h.elim
theorem R.All.onO {α : Type} {p : α → Prop} {v : AV} {k : Oth → R α} {s : String} (h : R.All p (v.onO k (.err s))) : ∃ b, v = .oth b ∧ R.All p (k b) := by
  cases v with
  | a l => exact h.elim
  | t l => exact h.elim
  | c x => cases x <;> first | exact ⟨_, rfl, h⟩ | exact h.elim
theorem R.All.ifb {α : Type} {p : α → Prop} {c : Bool} {r : R α} {s : String} (h : R.All p (ifb c r (.err s))) : c = true ∧ R.All p r := by
  cases c with
  | false => exact h.elim
  | true => exact ⟨rfl, h⟩
theorem R.All.ifbN {α : Type} {p : α → Prop} {c : Bool} {r : R α} {s : String} (h : R.All p (Go.Ev.ifb c (.err s) r)) : c = false ∧ R.All p r := by
  cases c with
  | false => exact ⟨rfl, h⟩
  | true => exact h.elim

section
variable {P : Program} {Γ : Tab} (hΓ : TabOk P Γ) {φ : Phi} {base : Nat} {σ : St} {w : World}

theorem has_mem (b : Nat) (l : List Nat) : has b l = decide (b ∈ l) := by
  have := has_iff b l
  by_cases h : b ∈ l
  · rw [this.2 h]; simp [h]
  · cases hh : has b l with
    | true => exact absurd (this.1 hh) h
    | false => simp [h]
theorem notIn_sound {seen : List Nat} {cs : Array Nat} (hs : SeenR cs.toList seen) : ∀ {es : List (AV × AV × Nat)} {ces : List MapEntry}, All2 (ER φ) es ces → All2 (ER φ) (notIn seen es) (ces.filter fun e => !cs.contains e.born)
  | [], [], _ => trivial
  | e :: es, c :: ces, h => by
    have hb : cs.contains c.born = has e.2.2 seen := by
      rw [h.1.2.2, has_mem, ← Array.contains_toList]
      have := hs.1 e.2.2
      by_cases hm : e.2.2 ∈ seen
      · simp [hm, this.2 hm]
      · have h2 : e.2.2 ∉ cs.toList := fun h => hm (this.1 h)
        rw [decide_eq_false hm]; simpa using h2
    unfold notIn
    cases hh : has e.2.2 seen with
    | true => rw [List.filter_cons_of_neg (by rw [hb, hh]; simp)]; exact notIn_sound hs h.2
    | false => rw [List.filter_cons_of_pos (by rw [hb, hh]; simp)]; exact ⟨h.1, notIn_sound hs h.2⟩
theorem allFrom_sound {n : Nat} : ∀ {es : List (AV × AV × Nat)} {ces : List MapEntry}, All2 (ER φ) es ces → allFrom n es = ces.all (fun e => decide (e.born ≥ n))
  | [], [], _ => rfl
  | e :: es, c :: ces, h => by
    unfold allFrom
    rw [List.all_cons, ← allFrom_sound h.2, ble_iff, h.1.2.2]
    by_cases hh : n ≤ e.2.2 <;> simp [hh, ifb]
theorem anyFrom_sound {n : Nat} : ∀ {es : List (AV × AV × Nat)} {ces : List MapEntry}, All2 (ER φ) es ces → anyFrom n es = false → ∀ e ∈ ces, e.born < n
  | [], [], _, _ => by simp
  | e :: es, c :: ces, h, hf => by
    unfold anyFrom at hf
    rw [ble_iff] at hf
    by_cases hh : n ≤ e.2.2
    · simp [hh, ifb] at hf
    · simp [hh, ifb] at hf
      intro x hx
      rcases List.mem_cons.1 hx with rfl | hx
      · rw [h.1.2.2]; omega
      · exact anyFrom_sound h.2 hf x hx

theorem iterPut_sound (hm : MR base φ σ w) {b g : Nat} {m : Option Nat} {since st : Nat} {seen : List Nat} (hb : hget σ b = .iter m since seen st) (hp : φ b = some (g, 0)) {cm : Option Nat} {cs : Array Nat} (hi : IR φ m cm) {s clock : Nat}
    (hs : SeenR cs.toList seen) : Stp base φ σ w φ ⟨hput σ.heap b (.iter m since (s :: s :: seen) clock), σ.next, lowd b [] σ.dirty⟩ (putObj w g (.mapIter cm since (cs.push s) clock)) := by
  have hlt := (hm.low b g 0 hp).2
  have hh : (⟨hput σ.heap b (.iter m since (s :: s :: seen) clock), σ.next, lowd b [] σ.dirty⟩ : St) = ⟨hput (kill (hget σ b).rel σ.heap) b (.iter m since (s :: s :: seen) clock), σ.next, lowd b (hget σ b).rel σ.dirty⟩ := by
    rw [hb]; rfl
  rw [hh]
  refine hm.turn (u := putObj w g (.mapIter cm since (cs.push s) clock)) (by unfold live; rw [hb]; simp) hp (by rw [hb]; rfl) _ ?_ (by simp [putObj]) (fun k hk => by simp [putObj, Array.getElem?_setIfInBounds_ne (Ne.symm hk)]) rfl rfl rfl rfl
  intro g1 o1 hp1
  rw [hp] at hp1; cases hp1
  exact ⟨rfl, cm, cs.push s, by simp [putObj, hlt], by rw [Array.toList_push]; exact hs.push s, hi⟩

theorem nextGo_sound (hm : MR base φ σ w) {r m since : Nat} {seen : List Nat} {st clock : Nat} {e : AV × AV × Nat} {a : AV × St} (h : nextGo σ r m since seen clock e = some a) (hb : hget σ r = .iter (some m) since seen st)
    {g g' : Nat} (hp : φ r = some (g, 0)) (hp' : φ m = some (g', 0)) {cs : Array Nat} (hs : SeenR cs.toList seen) {c : MapEntry} (hc : ER φ e c) :
    VR φ a.1 (.tuple #[.bool true, c.key, c.val]) ∧ Stp base φ σ w φ a.2 (putObj w g (.mapIter (some g') since (cs.push c.born) clock)) := by
  obtain ⟨k, hk, h1⟩ := onSome_eq h
  obtain ⟨v, hv, h2⟩ := onSome_eq h1
  cases h2
  refine ⟨⟨_, rfl, rfl, VRt_toTV hk hc.1, VRt_toTV hv hc.2.1, trivial⟩, ?_⟩
  have := iterPut_sound hm hb hp (cm := some g') ⟨g', hp', rfl⟩ (s := c.born) (clock := clock) hs
  rw [hc.2.2] at this ⊢
  exact this

theorem nextAll_mem {r m since : Nat} {seen : List Nat} {clock : Nat} : ∀ {es : List (AV × AV × Nat)} {l : List (AV × St)}, nextAll σ r m since seen clock es = some l → ∀ e ∈ es, ∃ a ∈ l, nextGo σ r m since seen clock e = some a
  | [], _, _, e, he => by cases he
  | x :: es, l, h, e, he => by
    obtain ⟨a, ha, h1⟩ := onSome_eq h
    obtain ⟨l', hl, h2⟩ := onSome_eq h1
    cases h2
    rcases List.mem_cons.1 he with rfl | he
    · exact ⟨a, by simp, ha⟩
    · obtain ⟨b, hb, hb'⟩ := nextAll_mem hl e he
      exact ⟨b, by simp [hb], hb'⟩

theorem nextA_sound {p : AV × St → Prop} (hm : MR base φ σ w) {x : AV} {u : Value} (h : R.All p (nextA σ x)) (hx : VR φ x u) (ty : TypeId) :
    ∃ a z w', p a ∧ (Instr.next u false ty).run P w = .ok z w' ∧ VR φ a.1 z ∧ Stp base φ σ w φ a.2 w' := by
  obtain ⟨b, off, rfl, h1⟩ := R.All.onP h
  obtain ⟨h0, h2⟩ := R.All.ifb h1
  rw [beq_iff] at h0
  have h0 : off = 0 := by simpa using h0
  subst h0
  obtain ⟨g, o, hp, rfl⟩ := hx
  have hp : φ b = some (g, o) := hp
  have hbr := hm.blk b
  cases hb : hget σ b <;> rw [hb] at h2 hbr <;> try exact h2.elim
  rename_i m since seen stepped
  obtain ⟨rfl, cm, cs, hg, hcs, hir⟩ := hbr g o hp
  have hit : (getObj g).run P w = .ok (.mapIter cm since cs stepped) w := by simp [getObj, Sem.run, hg]
  cases m with
  | none =>
    have hir : cm = none := hir
    subst hir
    exact ⟨(over, σ), .tuple #[.bool false], w, h2, by simp [Instr.next, hit], ⟨_, rfl, rfl, trivial⟩, Stp.refl hm⟩
  | some m =>
    obtain ⟨g', hp', rfl⟩ := hir
    have h2 : R.All p ((hget σ m).onMap (fun es clock => _) (.err "next: map")) := h2
    cases hmm : hget σ m <;> rw [hmm] at h2 <;> try exact h2.elim
    rename_i es clock
    obtain ⟨_, ces, hgm, hes⟩ := hm.mapAt hmm hp'
    obtain ⟨hc1, h3⟩ := R.All.ifbN (show R.All p (ifb _ (.err "next") _) from h2)
    obtain ⟨hc2, h4⟩ := R.All.ifbN h3
    have hleft := notIn_sound (φ := φ) hcs hes
    have hold := anyFrom_sound hleft hc2
    have hfil : ces.filter (fun e => !cs.contains e.born) = (ces.toList.filter fun e => !cs.contains e.born).toArray := by
      apply Array.ext'; simp
    have holdf : (ces.filter (fun e => !cs.contains e.born)).filter (fun e => decide (e.born < since)) = ces.filter (fun e => !cs.contains e.born) := by
      rw [hfil]; apply Array.ext'
      simp only [List.filter_toArray]
      rw [List.filter_eq_self]
      intro e he; simpa using hold e he
    have hnewf : (ces.filter (fun e => !cs.contains e.born)).filter (fun e => decide (e.born ≥ since)) = #[] := by
      rw [hfil]; apply Array.ext'
      simp only [List.filter_toArray]
      rw [List.filter_eq_nil_iff]
      intro e he; have := hold e he; simp; omega
    have hguard : (!cs.isEmpty && !ces.isEmpty && ces.all (fun e => decide (e.born ≥ stepped))) = false := by
      have e1 : cs.isEmpty = seen.isEmpty := by
        rw [← Array.isEmpty_toList]
        exact SeenR.isEmpty hcs
      have e2 : ces.isEmpty = es.isEmpty := by
        rw [← Array.isEmpty_toList]
        have := hes.length
        cases es <;> cases hh : ces.toList <;> rw [hh] at this <;> simp at this ⊢
      have e3 : ces.all (fun e => decide (e.born ≥ stepped)) = allFrom stepped es := by rw [allFrom_sound hes, Array.all_toList]
      rw [e1, e2, e3]
      cases hA : seen.isEmpty <;> cases hB : es.isEmpty <;> cases hC : allFrom stepped es <;> simp [ifb, hA, hB, hC] at hc1 ⊢
    generalize hL : ces.filter (fun e => !cs.contains e.born) = L at holdf hnewf hfil
    have hLl : All2 (ER φ) (notIn seen es) L.toList := by rw [hfil]; exact hleft
    have hnext : (Instr.next (.pointer (some ⟨g, 0 + 0, none⟩)) false ty).run P w = ((choose (.mapNext ((if L.isEmpty then #[none] else #[]) ++ L.map some).size)).run P w).andThen fun i w' =>
        (match ((if L.isEmpty then #[none] else #[]) ++ L.map some : Array (Option MapEntry))[i]? with
          | some (some e) => (do
            setObj g (.mapIter (some g') since (cs.push e.born) clock)
            pure (.tuple #[.bool true, e.key, e.val]) : Sem Value)
          | some none => pure (.tuple #[.bool false])
          | none => stuck "Next: no such candidate").run P w' := by
      simp only [Instr.next, Sem.run_bind, hit, Result.andThen_ok, run_getMap P hgm, hguard, hL, holdf, hnewf, Array.append_empty]
      simp only [Bool.false_eq_true, if_false, Sem.run_bind]
      rfl
    cases hn : notIn seen es with
    | nil =>
      rw [hn] at h4 hLl
      have hL0 : L = #[] := by
        apply Array.ext'
        cases hh : L.toList with
        | nil => rfl
        | cons a l => rw [hh] at hLl; exact hLl.elim
      subst hL0
      refine ⟨(over, σ), .tuple #[.bool false], w, h4, ?_, ⟨_, rfl, rfl, trivial⟩, Stp.refl hm⟩
      rw [hnext]
      simp [choose, Sem.run, Question.forced]
    | cons e0 rest =>
      have hmem : ∀ e ∈ notIn seen es, ∃ a, p a ∧ nextGo σ b m since seen clock e = some a := by
        rw [hn] at h4 ⊢
        cases rest with
        | nil =>
          obtain ⟨a, ha, hpa⟩ := R.All.onSome (show R.All p (onSome (nextGo σ b m since seen clock e0) (fun a => .one a) (.err "next: tuple")) from h4)
          intro e he
          simp at he
          subst he
          exact ⟨a, hpa, ha⟩
        | cons e1 rest =>
          obtain ⟨l, hl, hpl⟩ := R.All.onSome (show R.All p (onSome (nextAll σ b m since seen clock (e0 :: e1 :: rest)) (fun l => .many l) (.err "next: tuple")) from h4)
          intro e he
          obtain ⟨a, ha, hga⟩ := nextAll_mem hl e he
          exact ⟨a, hpl a ha, hga⟩
      have hLn : L.size ≠ 0 := by
        have := hLl.length
        rw [hn] at this
        simp at this
        omega
      have hLe : L.isEmpty = false := by simp; intro h; subst h; simp at hLn
      have hch : ∃ i w', (choose (.mapNext L.size)).run P w = .ok i w' ∧ i < L.size ∧ (w' = w ∨ w' = w.drew) := by
        by_cases h1 : L.size ≤ 1
        · exact ⟨0, w, by simp [choose, Sem.run, Question.forced, h1], by omega, .inl rfl⟩
        · refine ⟨w.tape w.drawn (.mapNext L.size) % L.size, w.drew, ?_, Nat.mod_lt _ (by omega), .inr rfl⟩
          rw [run_choose_drew]
          simp [Question.forced, Question.cut, h1]
      obtain ⟨i, w', hch, hi, hw'⟩ := hch
      have hLi : L[i]? = some L[i] := Array.getElem?_eq_getElem hi
      have hei : ∃ e, (notIn seen es)[i]? = some e ∧ ER φ e L[i] := by
        have hlen := hLl.length
        have hi' : i < (notIn seen es).length := by rw [hlen]; simpa using hi
        obtain ⟨c, hc, hr⟩ := hLl.get (List.getElem?_eq_getElem hi')
        refine ⟨_, List.getElem?_eq_getElem hi', ?_⟩
        have : c = L[i] := by rw [Array.getElem?_toList, hLi] at hc; exact (Option.some.inj hc).symm
        rw [← this]; exact hr
      obtain ⟨e, he, her⟩ := hei
      obtain ⟨a, hpa, hga⟩ := hmem e (List.mem_of_getElem? he)
      obtain ⟨hv, hst⟩ := nextGo_sound hm hga hb hp hp' hcs her
      have hput : ∀ w'' : World, w''.heap = w.heap → (setObj g (.mapIter (some g') since (cs.push L[i].born) clock)).run P w'' = .ok () (putObj w'' g (.mapIter (some g') since (cs.push L[i].born) clock)) := fun w'' hh => run_putIter (P := P) _ (by rw [hh]; exact hg)
      refine ⟨a, _, putObj w' g (.mapIter (some g') since (cs.push L[i].born) clock), hpa, ?_, hv, ?_⟩
      · rw [hnext]
        simp only [hLe, Bool.false_eq_true, if_false, Array.empty_append, Array.size_map, hch, Result.andThen_ok, Array.getElem?_map, hLi, Option.map_some]
        rcases hw' with rfl | rfl
        · simp [hput _ rfl]
        · simp [hput w.drew rfl]
      · rcases hw' with rfl | rfl
        · exact hst
        · exact hst.draw

/-- Calls of the evaluator are calls of the model. -/
def CallOk (P : Program) (call : Call) : Prop := ∀ (f : FuncId) (args : List AV) (σ : St) (p : AV × St → Prop), R.All p (call f args σ) →
  ∀ (base : Nat) (φ : Phi) (w : World) (us : Array Value), MR base φ σ w → All2 (VR φ) args us.toList →
    (∃ fn c, P.funcs[f]? = some fn ∧ fn.body = some c ∧ (fn.name == "runtime.NumGoroutine") = false) ∧
    Calls P f us w fun e w' => ∃ u v τ ψ, e = .returned u ∧ p (v, τ) ∧ VR ψ v u ∧ Stp base φ σ w ψ τ w'

/-- What is told of one function is what it does. -/
def SumOk (P : Program) (f : FuncId) (s : Call → List AV → St → Option (R (AV × St))) : Prop := ∀ (call : Call), CallOk P call → ∀ (args : List AV) (σ : St) (r : R (AV × St)), s call args σ = some r → ∀ (p : AV × St → Prop), R.All p r →
  ∀ (base : Nat) (φ : Phi) (w : World) (us : Array Value), MR base φ σ w → All2 (VR φ) args us.toList →
    (∃ fn c, P.funcs[f]? = some fn ∧ fn.body = some c ∧ (fn.name == "runtime.NumGoroutine") = false) ∧
    Calls P f us w fun e w' => ∃ u v τ ψ, e = .returned u ∧ p (v, τ) ∧ VR ψ v u ∧ Stp base φ σ w ψ τ w'

theorem run_callFunc {f : FuncId} {fn : Func} {c : Code} (hf : P.funcs[f]? = some fn) (hb : fn.body = some c) (hn : (fn.name == "runtime.NumGoroutine") = false) (args : Array Value) :
    (callFunc f args).run P w = .ok (.enter f args) w := by
  have hn' : ¬ fn.name = "runtime.NumGoroutine" := by simpa using hn
  simp [callFunc, hf, hn', hb]

theorem wp_enter {o : Oper} {a : Act} {next : Act → World → Prop} {Q : Exit → Act → World → Prop} {call : Call} (hc : CallOk P call) (hm : MR base φ σ w) {f : FuncId} {args : List AV} {us : Array Value} {p : AV × St → Prop}
    (h : R.All p (call f args σ)) (ha : All2 (VR φ) args us.toList) (hrun : (execOp a.eval o).run P w = (callFunc f us).run P w)
    (hnext : ∀ v τ ψ u w', p (v, τ) → VR ψ v u → Stp base φ σ w ψ τ w' → next (a.put o.dst u) w') : o.wp P a w next Q := by
  obtain ⟨⟨fn, c, hf, hb, hn⟩, hcalls⟩ := hc f args σ p h base φ w us hm ha
  unfold Oper.wp
  rw [hrun, run_callFunc hf hb hn, Oper.upon_enter]
  refine hcalls.mono fun e w' he => ?_
  obtain ⟨u, v, τ, ψ, rfl, hp, hv, hst⟩ := he
  exact hnext v τ ψ u w' hp hv hst

theorem All2.map_of {α β γ : Type} {R : α → β → Prop} {S : γ → β → Prop} {f : γ → α} (h : ∀ c b, S c b → R (f c) b) : ∀ {l : List γ} {m : List β}, All2 S l m → All2 R (l.map f) m
  | [], [], _ => trivial
  | _ :: _, _ :: _, hh => ⟨h _ _ hh.1, map_of h hh.2⟩

theorem op_call {o : Oper} {f : Call → T → St → R (AV × St)} (ho : opB P Γ o = .c f) {call : Call} (hc : CallOk P call) (hm : MR base φ σ w) {t : T} {a : Act} (hx : ∀ x ∈ o.op.operands, OR φ t a.eval x)
    {p : AV × St → Prop} (h : R.All p (f call t σ)) {next : Act → World → Prop} {Q : Exit → Act → World → Prop}
    (hnext : ∀ v τ ψ u w', p (v, τ) → VR ψ v u → Stp base φ σ w ψ τ w' → next (a.put o.dst u) w') : o.wp P a w next Q := by
  obtain ⟨dst, op, type, pos, after, guard⟩ := o
  rw [opB_eq] at ho
  cases op <;> simp only [opB0, Bx.use_eq] at ho <;> simp only [Op.operands] at hx <;> try (cases ho; done)
  case alloc => split at ho <;> cases ho
  case makeMap ty r =>
    cases r <;> simp only at ho
    · cases ho
    · split at ho <;> cases ho
  case makeInterface => split at ho <;> cases ho
  case makeFunc fn _ _ => cases fn <;> simp only at ho <;> cases ho
  case typeAssert => split at ho <;> cases ho
  case next it is =>
    cases is <;> simp only at ho <;> try (cases ho; done)
    cases ho
    obtain ⟨a', z, w', hp, hrun, hv, hst⟩ := nextA_sound (P := P) hm h (hx it (by simp)) type
    unfold Oper.wp
    have : (execOp a.eval ⟨dst, .next it false, type, pos, after, guard⟩).run P w = .ok (.value z) w' := by simp [execOp, hrun]
    rw [this, Oper.upon_value]
    exact hnext a'.1 a'.2 φ z w' hp hv hst
  case call c =>
    obtain ⟨callee, args, argTypes⟩ := c
    cases callee with
    | invoke r n => simp only at ho; cases ho
    | builtin b =>
      simp only at ho
      split at ho <;> first | (cases ho; done) | (split at ho <;> cases ho)
    | value f =>
      have hargs : All2 (VR φ) ((opersB args.toList).run t) (args.toList.map a.eval) := opersB_sound fun x hxx => hx x (by simp [Call.operands]; right; simpa using hxx)
      have dyn : ∀ (f : Operand) (k : T → St → R (AV × St)), (∀ τ σ, k τ σ = ((operB f).run τ).onO (fun x => match x with
          | .fn f first captured => call f (first.map ptrV ++ (opersB args.toList).run τ ++ captured.map ptrV) σ
          | _ => .err "call of no function") (.err "call of no function")) → R.All p (k t σ) → OR φ t a.eval f →
          Oper.wp P ⟨dst, .call ⟨.value f, args, argTypes⟩, type, pos, after, guard⟩ a w next Q := by
        intro f k hk h hf
        rw [hk] at h
        obtain ⟨y, hy, h1⟩ := R.All.onO h
        unfold OR at hf
        rw [hy] at hf
        cases y <;> simp only [] at h1 <;> try exact h1.elim
        rename_i g first captured
        obtain ⟨vs, ws, hv, h2, h3⟩ := (show VRo φ (.fn g first captured) (a.eval f) from hf)
        refine wp_enter hc hm h1 (us := vs ++ args.map a.eval ++ ws) ?_ ?_ hnext
        · rw [Array.toList_append, Array.toList_append]
          refine (All2.append (All2.append (All2.map_of (R := VR φ) (f := ptrV) (fun c b hcb => hcb) h2) ?_) (All2.map_of (R := VR φ) (f := ptrV) (fun c b hcb => hcb) h3))
          simpa using hargs
        · simp only [execOp, resolve, hv, Deferred.ofValue, Sem.run_bind, Sem.run_pure, Result.andThen_ok, invoke]
      cases f with
      | func g =>
        simp only at ho
        split at ho
        · cases ho
        cases ho
        refine wp_enter hc hm h (us := args.map a.eval) (by simpa using hargs) ?_ hnext
        simp only [execOp, resolve, Act.eval, Deferred.ofValue, Sem.run_bind, Sem.run_pure, Result.andThen_ok, invoke]
        simp
      | tmp i => simp only at ho; cases ho; exact dyn (.tmp i) _ (fun τ σ => rfl) h (hx _ (by simp [Call.operands]))
      | const v => simp only at ho; cases ho; exact dyn (.const v) _ (fun τ σ => rfl) h (hx _ (by simp [Call.operands]))
      | global g => simp only at ho; cases ho; exact dyn (.global g) _ (fun τ σ => rfl) h (hx _ (by simp [Call.operands]))

include hΓ
theorem op_write {o : Oper} {f : T → St → Option (AV × St)} (ho : opB P Γ o = .w f) (hm : MR base φ σ w) {t : T} {a : Act} (hx : ∀ x ∈ o.op.operands, OR φ t a.eval x)
    {v : AV} {τ : St} (h : f t σ = some (v, τ)) {next : Act → World → Prop} {Q : Exit → Act → World → Prop}
    (hnext : ∀ ψ u w', VR ψ v u → Stp base φ σ w ψ τ w' → next (a.put o.dst u) w') : o.wp P a w next Q := by
  obtain ⟨r, u, w', ψ, hrun, hr, hv, hst⟩ := opB_write hΓ ho hm hx h
  unfold Oper.wp
  rw [hrun]
  rcases hr with rfl | ⟨rfl, rfl⟩
  · exact hnext ψ u w' hv hst
  · exact hnext ψ undef w' hv hst
theorem op_quiet {o : Oper} {f : T → St → Option AV} (ho : (opB P Γ o).quiet = some f) (hm : MR base φ σ w) {t : T} {a : Act} (hx : ∀ x ∈ o.op.operands, OR φ t a.eval x)
    {v : AV} (h : f t σ = some v) {next : Act → World → Prop} {Q : Exit → Act → World → Prop}
    (hnext : ∀ u, VR φ v u → next (a.put o.dst u) w) : o.wp P a w next Q := by
  obtain ⟨u, hrun, hv⟩ := opB_quiet hΓ ho hm hx h
  unfold Oper.wp
  rw [hrun]
  exact hnext u hv
end
end Go.Ev
