/-
  Operations in whatever order: the run.
-/
import Derived.Test.YtjjnhpoemcihgaaGreatEvt
namespace Go.Ev

def on (listed : Array Bool) (k : Nat) : Bool := listed.getD k false
def dstOf (ops : Array Oper) (k : Nat) : Option Tmp := (ops[k]?).bind (·.dst)
def Wants (ops : Array Oper) (ρ : Nat → Int) (o : Oper) (t : T) : Prop := ∀ j want, o.guard = some (j, want) → ∃ g d, ops[j]? = some g ∧ g.dst = some d ∧ Told ρ ((getT d).run t) want
def Unwanted (ops : Array Oper) (ρ : Nat → Int) (o : Oper) (t : T) : Prop := ∃ j want g d, o.guard = some (j, want) ∧ ops[j]? = some g ∧ g.dst = some d ∧ (Told ρ ((getT d).run t) (!want) ∨ ∃ l, (getT d).run t = .t l)
/-- At the slots that an operation looks at, what is known holds. -/
def Agree (ops : Array Oper) (φ : Phi) (t : T) (a : Act) (o : Oper) : Prop := ∀ d ∈ looksN ops.toList o, VR φ ((getT d).run t) (a.tmps.getD d undef)

section
variable {P : Program} {Γ : Tab} (hΓ : TabOk P Γ) {φ : Phi} {base : Nat} {σ : St} {w : World} {ops : Array Oper} {A : List Nat} {hs : List Bool} {n : Nat}

theorem Agree.opers {t : T} {a : Act} {o : Oper} (h : Agree ops φ t a o) : ∀ x ∈ o.op.operands, OR φ t a.eval x := by
  intro x hx
  cases x with
  | tmp i => exact h i (looksN_eq i hx)
  | const v => exact VR_ofV φ v
  | global g => trivial
  | func f => exact ⟨#[], #[], rfl, trivial, trivial⟩

theorem yielded_at {a : Act} {v : AV} {j : Nat} {g : Oper} (hg : ops[j]? = some g) {d : Tmp} (hd : g.dst = some d) (hv : VR φ v (a.tmps.getD d undef)) :
    (∀ b, Told φ.ρ v b → yielded ops a.tmps j = some b) ∧ (∀ l, v = .t l → yielded ops a.tmps j = none) := by
  constructor
  · intro b hb
    have hv : a.tmps.getD d undef = .bool b := hb.VR hv
    rw [Array.getD_eq_getD_getElem?] at hv
    cases h : a.tmps[d]? with
    | none => rw [h] at hv; cases hv
    | some v =>
      rw [h] at hv
      have hv : v = .bool b := hv
      subst hv
      simp [yielded, hg, hd, h]
  · intro l hl
    subst hl
    obtain ⟨vs, hv, _⟩ := hv
    cases h : a.tmps[d]? with
    | none => simp [yielded, hg, hd, h]
    | some v =>
      rw [Array.getD_eq_getD_getElem?, h] at hv
      have hv : v = .tuple vs := hv
      subst hv
      simp [yielded, hg, hd, h]
theorem wanted_of {t : T} {a : Act} {o : Oper} (h : Agree ops φ t a o) (hw : Wants ops φ.ρ o t) : Region.wanted o (yielded ops a.tmps) = true := by
  unfold Region.wanted
  cases hg : o.guard with
  | none => rfl
  | some gw =>
    obtain ⟨j, want⟩ := gw
    obtain ⟨g, d, h1, h2, h3⟩ := hw j want hg
    have := (yielded_at h1 h2 (h d (looksN_guard hg h1 h2))).1 want h3
    simp [this]
theorem unwanted_of {t : T} {a : Act} {o : Oper} (h : Agree ops φ t a o) (hw : Unwanted ops φ.ρ o t) : Region.wanted o (yielded ops a.tmps) = false := by
  obtain ⟨j, want, g, d, hg, h1, h2, h3⟩ := hw
  unfold Region.wanted
  simp only [hg]
  have hy := yielded_at h1 h2 (h d (looksN_guard hg h1 h2))
  rcases h3 with h3 | ⟨l, h3⟩
  · rw [hy.1 _ h3]; cases want <;> rfl
  · rw [hy.2 l h3]; rfl

/-- An operation that the evaluator has done and the model, in its own order, has not. -/
inductive Wait (P : Program) (Γ : Tab) (ops : Array Oper) (φ : Phi) (σ0 : St) (t0 : T) (l : List Pend) (ids : List (Nat × Nat)) (X : List (Nat × AV)) (e : Nat × AV) (o : Oper) (σ : St) : Prop
  | pure (f : T → Option AV) (t : T) (h1 : opB P Γ o = .p f) (h2 : ∀ d, (getT d).run t = valAt t0 (dstOf ops) X d) (h3 : Wants ops φ.ρ o t) (h4 : f t = some e.2)
  | read (f : T → St → Option AV) (t : T) (h1 : opB P Γ o = .q f) (h2 : ∀ d, (getT d).run t = valAt t0 (dstOf ops) X d) (h3 : Wants ops φ.ρ o t) (h4 : ∃ v, f t σ = some v ∧ Finer φ.ρ v e.2) (h5 : (⟨e.1, f t, e.2⟩ : Pend) ∈ l)
  | new (f : T → New) (t : T) (blk : ABlk) (mk : Nat → AV) (id : Nat) (h1 : opB P Γ o = .n f) (h2 : ∀ d, (getT d).run t = valAt t0 (dstOf ops) X d) (h3 : Wants ops φ.ρ o t) (h4 : f t = some (blk, mk)) (h5 : e.2 = mk id)
      (h6 : (e.1, id) ∈ ids) (h7 : φ id = none) (h8 : σ0.next ≤ id + 1) (h9 : hget σ id = blk ∨ hget σ id = .none) (h10 : id + 1 < σ.next)
  | skip (t : T) (h2 : ∀ d, (getT d).run t = valAt t0 (dstOf ops) X d) (h3 : Unwanted ops φ.ρ o t) (h4 : e.2 = .t [])

structure Sim (P : Program) (Γ : Tab) (ops : Array Oper) (A : List Nat) (hs : List Bool) (n : Nat) (call : Call) (p : TS → Prop) (base : Nat) (φ0 : Phi) (σ0 : St) (w0 : World) (t0 : T) (ds : List Deferred)
    (C1 : List (Nat × AV)) (C2 : List Nat) (listed : Array Bool) (φ : Phi) (t : T) (σ : St) (l : List Pend) (ids : List (Nat × Nat)) (a : Act) (w : World) : Prop where
  chk : checkC ops.toList A hs (C1.map (·.1)) C2 = true
  topo : ∀ X e Y, C1 = X ++ e :: Y → e.1 ∉ X.map (·.1) ∧ ∃ o, ops[e.1]? = some o ∧ ∀ d ∈ depsOf o, d ∈ X.map (·.1)
  sub : ∀ k, on listed k = true → k ∈ C1.map (·.1)
  closed : ∀ k o, ops[k]? = some o → on listed k = true → ∀ d ∈ depsOf o, on listed d = true
  ev : R.All p ((drawB P Γ n ops.toList A C2).run call t σ l)
  stp : Stp base φ0 σ0 w0 φ σ w
  tv : ∀ d, (getT d).run t = valAt t0 (dstOf ops) C1 d
  av : ∀ d, VR φ (valAt t0 (dstOf ops) (C1.filter fun e => on listed e.1) d) (a.tmps.getD d undef)
  size : a.tmps.size = n
  defers : a.defers = ds
  lsize : listed.size = ops.size
  idsP : ids.Pairwise fun a b => a.2 ≠ b.2
  idsLt : ∀ x ∈ ids, x.2 + 1 < σ.next
  wait : ∀ X e Y, C1 = X ++ e :: Y → on listed e.1 = false → ∃ o, ops[e.1]? = some o ∧ Wait P Γ ops φ σ0 t0 l ids X e o σ

theorem checkC_all : ∀ {C2 C1 : List Nat}, checkC ops.toList A hs C1 C2 = true → ∀ i, i < ops.size → i ∈ C1 ∨ i ∈ C2
  | [], C1, h, i, hi => by
    left
    have h : ((List.range ops.toList.length).all fun i => has i C1) = true := h
    rw [List.all_eq_true] at h
    exact (has_iff i C1).1 (h i (by simpa using hi))
  | c :: C2, C1, h, i, hi => by
    unfold checkC at h
    cases ho : nth c ops.toList with
    | none => simp only [ho] at h; cases h
    | some o =>
      simp only [ho] at h
      obtain ⟨_, h⟩ := (show has c C1 = false ∧ _ from by
        cases hh : has c C1 with
        | true => rw [hh] at h; cases h
        | false => rw [hh] at h; exact ⟨rfl, h⟩)
      obtain ⟨_, h⟩ := ifb_and (show ifb _ (ifb _ (checkC ops.toList A hs (C1 ++ [c]) C2) false) false = true from h)
      obtain ⟨_, h⟩ := ifb_and h
      rcases checkC_all h i hi with h | h
      · rcases List.mem_append.1 h with h | h
        · exact .inl h
        · simp at h; subst h; exact .inr (by simp)
      · exact .inr (by simp [h])

theorem checkC_cons {c : Nat} {C1 C2 : List Nat} (h : checkC ops.toList A hs C1 (c :: C2) = true) : ∃ o, ops[c]? = some o ∧ c ∉ C1 ∧ (∀ d ∈ depsOf o, d ∈ C1) ∧ (hs[c]? = some false ∨ ∀ k ∈ C2, bitAt A k c = true) ∧ checkC ops.toList A hs (C1 ++ [c]) C2 = true := by
  unfold checkC at h
  cases ho : nth c ops.toList with
  | none => simp only [ho] at h; cases h
  | some o =>
    simp only [ho] at h
    have hh : has c C1 = false := by
      cases hh : has c C1 with
      | true => rw [hh] at h; cases h
      | false => rfl
    rw [hh] at h
    obtain ⟨h1, h⟩ := ifb_and (show ifb _ (ifb _ (checkC ops.toList A hs (C1 ++ [c]) C2) false) false = true from h)
    obtain ⟨h2, h⟩ := ifb_and h
    rw [nth_eq] at ho
    refine ⟨o, by simpa using ho, (fun hc => by rw [(has_iff c C1).2 hc] at hh; cases hh), fun d hd => (has_iff d C1).1 (List.all_eq_true.1 h1 d hd), ?_, h⟩
    cases hv : nth c hs with
    | none => simp only [hv] at h2; exact .inr fun k hk => List.all_eq_true.1 h2 k hk
    | some b =>
      cases b with
      | false => left; rw [nth_eq] at hv; exact hv
      | true => simp only [hv] at h2; exact .inr fun k hk => List.all_eq_true.1 h2 k hk

variable {call : Call} {p : TS → Prop} {φ0 : Phi} {σ0 : St} {w0 : World} {t0 : T} {ds : List Deferred} {C1 : List (Nat × AV)} {C2 : List Nat} {listed : Array Bool} {t : T} {l : List Pend} {ids : List (Nat × Nat)} {a : Act}

/-- The slots of an operation that has not come, held against the evaluator's slots when it did that operation. -/
theorem Sim.agree (s : Sim P Γ ops A hs n call p base φ0 σ0 w0 t0 ds C1 C2 listed φ t σ l ids a w) (hA : masks ops.toList [] = some A) (hP : pairsI A ops.toList ops.toList 0 = true)
    {X Y : List (Nat × AV)} (hC : C1 = X ++ Y) {i : Nat} {o : Oper} (ho : ops[i]? = some o) (hi : on listed i = false) (hdl : ∀ d ∈ depsOf o, on listed d = true) (hX : ∀ d ∈ depsOf o, d ∈ X.map (·.1)) (hiX : i ∉ X.map (·.1))
    (hY : ∀ e ∈ Y, e.1 ≠ i → e.1 ∉ X.map (·.1)) :
    ∀ d, (d ∈ looksN ops.toList o ∨ o.dst = some d) → (∀ e ∈ X, dstOf ops e.1 = some d → on listed e.1 = true) ∧ (∀ e ∈ Y, dstOf ops e.1 = some d → on listed e.1 = false) := by
  intro d hd
  have topoX : ∀ k o, ops[k]? = some o → k ∈ X.map (·.1) → ∀ d ∈ depsOf o, d ∈ X.map (·.1) := by
    intro k ok hok hk d hd
    obtain ⟨e, he, rfl⟩ := List.mem_map.1 hk
    obtain ⟨X1, X2, rfl⟩ := List.append_of_mem he
    obtain ⟨_, o', ho', hd'⟩ := s.topo X1 e (X2 ++ Y) (by rw [hC]; simp)
    rw [hok] at ho'; cases ho'
    have := hd' d hd
    rw [List.map_append]; exact List.mem_append_left _ this
  constructor
  · intro e he hde
    obtain ⟨X1, X2, hX12⟩ := List.append_of_mem he
    obtain ⟨_, oe, hoe, hde'⟩ := s.topo X1 e (X2 ++ Y) (by rw [hC, hX12]; simp)
    have hdo : oe.dst = some d := by simpa [dstOf, hoe] using hde
    have hne : i ≠ e.1 := by intro h; apply hiX; rw [h]; exact List.mem_map.2 ⟨e, he, rfl⟩
    rcases pairs_spec hP ho hoe hne hdo hd with hb | hb
    · exact bit_closed hA (L := fun k => on listed k = true) s.closed ho hdl hb
    · exfalso
      refine hiX ?_
      refine bit_closed hA (L := fun k => k ∈ X.map (·.1)) topoX hoe ?_ hb
      intro x hx
      have := hde' x hx
      rw [hX12, List.map_append]; exact List.mem_append_left _ this
  · intro e he hde
    by_cases hei : e.1 = i
    · rw [hei]; exact hi
    · have hmem : e ∈ C1 := by rw [hC]; exact List.mem_append_right _ he
      obtain ⟨C, D, hCD⟩ := List.append_of_mem hmem
      obtain ⟨_, oe, hoe, hde'⟩ := s.topo C e D hCD
      have hdo : oe.dst = some d := by simpa [dstOf, hoe] using hde
      cases hl : on listed e.1 with
      | false => rfl
      | true =>
        exfalso
        rcases pairs_spec hP ho hoe (Ne.symm hei) hdo hd with hb | hb
        · exact hY e he hei (bit_closed hA (L := fun k => k ∈ X.map (·.1)) topoX ho hX hb)
        · have := bit_closed hA (L := fun k => on listed k = true) s.closed hoe (s.closed e.1 oe hoe hl) hb
          rw [hi] at this; cases this
end
end Go.Ev
