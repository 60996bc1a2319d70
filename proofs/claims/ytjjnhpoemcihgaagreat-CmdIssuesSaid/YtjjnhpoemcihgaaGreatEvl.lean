/-
  Every quiet operation.
-/
import Derived.Test.YtjjnhpoemcihgaaGreatEvk
namespace Go.Ev

section
variable {P : Program} {Γ : Tab} (hΓ : TabOk P Γ) {φ : Phi} {base : Nat} {σ : St} {w : World}

/-- Operands, held against what they are. -/
abbrev OR (φ : Phi) (t : T) (ρ : Operand → Value) (x : Operand) : Prop := VR φ ((operB x).run t) (ρ x)

theorem opersB_run (t : T) : ∀ l : List Operand, (opersB l).run t = l.map fun x => (operB x).run t
  | [] => rfl
  | x :: l => by
    show (operB x).run t :: (opersB l).run t = _
    rw [opersB_run t l]; rfl
theorem opersB_sound {t : T} {ρ : Operand → Value} : ∀ {l : List Operand}, (∀ x ∈ l, OR φ t ρ x) → All2 (VR φ) ((opersB l).run t) (l.map ρ)
  | [], _ => trivial
  | x :: l, h => ⟨h x (by simp), opersB_sound fun y hy => h y (by simp [hy])⟩
theorem partsB_sound {t : T} {ρ : Operand → Value} : ∀ {l : List (Nat × Operand)}, (∀ x ∈ l.map (·.2), OR φ t ρ x) →
    All2 (fun (p : Nat × AV) (q : Nat × Value) => p.1 = q.1 ∧ VR φ p.2 q.2) ((partsB l).run t) (l.map fun p => (p.1, ρ p.2))
  | [], _ => trivial
  | (i, x) :: l, h => ⟨⟨rfl, h x (by simp)⟩, partsB_sound fun y hy => h y (by simp at hy ⊢; exact .inr hy)⟩
theorem ptrsB_sound {t : T} {ρ : Operand → Value} : ∀ {l : List Operand} {ps : List (Nat × Nat)}, (∀ x ∈ l, OR φ t ρ x) → (ptrsB l).run t = some ps → All2 (VRp φ) ps (l.map ρ)
  | [], ps, _, h => by cases h; trivial
  | x :: l, ps, hx, h => by
    obtain ⟨b, o, hb, h1⟩ := onP_some (v := (operB x).run t) h
    obtain ⟨ps', hp, h2⟩ := onSome_eq h1
    cases h2
    have := hx x (by simp)
    unfold OR at this
    rw [hb] at this
    exact ⟨this, ptrsB_sound (fun y hy => hx y (by simp [hy])) hp⟩
theorem operOB_sound {t : T} {ρ : Operand → Value} {x : Option Operand} (h : ∀ y ∈ x, OR φ t ρ y) : VRopt φ ((operOB x).run t) (x.map ρ) := by
  cases x with
  | none => trivial
  | some x => exact h x rfl

theorem noNil_sound {x r : AV} {u : Value} (h : noNil x = some r) (hx : VR φ x u) (o : Oper) (y : Operand) (ρ : Operand → Value) (hy : ρ y = u) (ho : o.op = .nilCheck y) :
    (execOp ρ o).run P w = .ok (.value u) w ∧ VR φ r u := by
  obtain ⟨dst, op, type, pos, after, guard⟩ := o
  subst ho
  cases x with
  | t l => cases h; obtain ⟨vs, rfl, _⟩ := hx; simp [execOp, hy]; exact ⟨vs, rfl, by assumption⟩
  | a l => cases h; obtain ⟨vs, rfl, _⟩ := hx; simp [execOp, hy]; exact ⟨vs, rfl, by assumption⟩
  | c x =>
    cases x with
    | i k n => cases h; have hx : u = .int k n := hx; subst hx; simp [execOp, hy]; rfl
    | p b o => cases h; obtain ⟨g, o', hp, rfl⟩ := hx; simp [execOp, hy]; exact ⟨g, o', hp, rfl⟩
    | b x => cases h; have hx : u = .bool x := hx; subst hx; simp [execOp, hy]; rfl
    | s x => cases h; obtain ⟨s, rfl, hs⟩ := hx; simp [execOp, hy]; exact ⟨s, rfl, hs⟩
    | o x =>
      have hx : VRo φ x u := hx
      cases x <;> simp only [noNil] at h <;> (try (cases h; done)) <;> simp only [Option.some.injEq] at h <;> subst h
      case slc => obtain ⟨g, o', c, hp, rfl, h2⟩ := hx; simp [execOp, hy]; exact ⟨g, o', c, hp, rfl, h2⟩
      case nils => cases hx; simp [execOp, hy]; rfl
      case emp => obtain ⟨a, c, rfl⟩ := hx; simp [execOp, hy]; exact ⟨a, c, rfl⟩
      case map => obtain ⟨g, hp, rfl⟩ := hx; simp [execOp, hy]; exact ⟨g, hp, rfl⟩
      case nilm => cases hx; simp [execOp, hy]; rfl
      case fn => obtain ⟨vs, ws, rfl, h2⟩ := hx; simp [execOp, hy]; exact ⟨vs, ws, rfl, h2⟩
      case ifc => obtain ⟨g, hp, rfl⟩ := hx; simp [execOp, hy]; exact ⟨g, hp, rfl⟩

theorem VRt_ofTV {x : TV} {u : Value} (h : VRt φ x u) : VR φ (ofTV x) u := by
  cases x <;> exact h
theorem VRt_toTV {x : AV} {y : TV} {u : Value} (h : toTV x = some y) (hx : VR φ x u) : VRt φ y u := by
  cases x with
  | c x => cases h; exact hx
  | a l => cases h; exact hx
  | t l => cases h
theorem tup2_sound {x y r : AV} {u v : Value} (h : tup2 x y = some r) (hx : VR φ x u) (hy : VR φ y v) : VR φ r (.tuple #[u, v]) := by
  obtain ⟨a, ha, h1⟩ := onSome_eq h
  obtain ⟨b, hb, h2⟩ := onSome_eq h1
  cases h2
  exact ⟨_, rfl, VRt_toTV ha hx, VRt_toTV hb hy, trivial⟩

theorem extract_sound {x r : AV} {u : Value} {i : Nat} (h : (x.onT (fun l => onSome (nth i l) (fun x => some (ofTV x)) none) none) = some r) (hx : VR φ x u) :
    ∃ z, (Instr.extract u i).run P w = .ok z w ∧ VR φ r z := by
  obtain ⟨l, rfl, h1⟩ := onT_some h
  obtain ⟨y, hy, h2⟩ := onSome_eq h1
  cases h2
  obtain ⟨vs, rfl, hvs⟩ := hx
  rw [nth_eq] at hy
  obtain ⟨v, hv, hr⟩ := hvs.get hy
  refine ⟨v, ?_, VRt_ofTV hr⟩
  have hv' : vs[i]? = some v := by simpa using hv
  simp [Instr.extract, hv']

theorem findBorn_sound {s : Nat} : ∀ {es : List (AV × AV × Nat)} {cs : List MapEntry} {r : AV × AV}, findBorn s es = some r → All2 (ER φ) es cs →
    ∃ e : MapEntry, cs.find? (·.born == s) = some e ∧ VR φ r.1 e.key ∧ VR φ r.2 e.val
  | [], [], r, h, _ => by cases h
  | e :: es, c :: cs, r, h, ha => by
    obtain ⟨h1, h2, h3⟩ := ha.1
    unfold findBorn at h
    cases hb : Nat.beq e.2.2 s with
    | true =>
      rw [hb] at h
      cases h
      rw [beq_iff] at hb
      have : e.2.2 = s := by simpa using hb
      exact ⟨c, by simp [h3, this], h1, h2⟩
    | false =>
      rw [hb] at h
      rw [beq_iff] at hb
      have hne : ¬ e.2.2 = s := by simpa using hb
      obtain ⟨x, hx, hr⟩ := findBorn_sound h ha.2
      have hbe : (c.born == s) = false := by rw [h3]; simpa using hne
      exact ⟨x, by rw [List.find?_cons, hbe]; exact hx, hr⟩

theorem entryA_sound (hm : MR base φ σ w) {x r : AV} {u : Value} (h : entryA σ x = some r) (hx : VR φ x u) : ∃ z, (Instr.entry u).run P w = .ok z w ∧ VR φ r z := by
  obtain ⟨b, off, rfl, h1⟩ := onP_some h
  obtain ⟨h0, h2⟩ := ifb_eq h1
  rw [beq_iff] at h0
  have h0 : off = 0 := by simpa using h0
  subst h0
  obtain ⟨m, since, seen, stepped, hb, h3⟩ := onIter_some h2
  obtain ⟨m, rfl, h4⟩ := onSome_eq h3
  obtain ⟨g, o, hp, rfl⟩ := hx
  have hbr := hm.blk b
  rw [hb] at hbr
  obtain ⟨rfl, cm, cs, hg, hcs, g', hp', rfl⟩ := hbr g o hp
  match seen, hcs, h4 with
  | [], _, h4 => cases h4
  | [_], _, h4 => cases h4
  | s :: s' :: seen, hcs, h4 =>
    have h9 : ifb (!(Nat.beq s s')) none ((hget σ m).onMap (fun es clock => ifb (Nat.beq clock stepped) (onSome (findBorn s es) (fun e => tup2 e.1 e.2) none) none) none) = some r := h4
    cases hss : Nat.beq s s' with
    | false => rw [hss] at h9; cases h9
    | true =>
    rw [hss] at h9
    clear h4
    have h9 : (hget σ m).onMap (fun es clock => ifb (Nat.beq clock stepped) (onSome (findBorn s es) (fun e => tup2 e.1 e.2) none) none) none = some r := h9
    rw [beq_iff] at hss
    have hss := of_decide_eq_true hss
    subst hss
    obtain ⟨es, clock, hmm, h5⟩ := onMap_some h9
    obtain ⟨hc, h6⟩ := ifb_eq h5
    rw [beq_iff] at hc
    have hc : clock = stepped := by simpa using hc
    subst hc
    obtain ⟨e, he, h7⟩ := onSome_eq h6
    obtain ⟨_, ces, hgm, hes⟩ := hm.mapAt hmm hp'
    obtain ⟨c, hc, hk, hv⟩ := findBorn_sound he hes
    refine ⟨_, ?_, tup2_sound h7 hk hv⟩
    have hback : cs.back? = some s := by
      have := hcs.2 s seen rfl
      rw [Array.back?_eq_getElem?, ← Array.getElem?_toList, ← Array.length_toList, ← List.getLast?_eq_getElem?]; exact this
    have hfind : ces.find? (·.born == s) = some c := by rw [← Array.find?_toList]; exact hc
    have hit : (getObj g).run P w = .ok (.mapIter (some g') since cs clock) w := by simp [getObj, Sem.run, hg]
    simp [Instr.entry, hit, hback, run_getMap P hgm, hfind]

theorem minmax_step {F : List Fact} (hF : ∀ f ∈ F, f.holds φ.ρ φ.str) {mx : Bool} {x y r : AV} {l : List AV} {u v : Value} (h : minmax F mx x (y :: l) = some r) (hx : VR φ x u) (hy : VR φ y v) :
    ∃ x' u', minmax F mx x' l = some r ∧ VR φ x' u' ∧ (if mx then Builtin.max2 else Builtin.min2) u v = pure u' := by
  unfold minmax at h
  obtain ⟨k, c, a, h1, e1⟩ := onL_some h
  obtain ⟨j, d, b, h2, e2⟩ := onL_some h1
  obtain ⟨hk, h3⟩ := ifb_eq h2
  rw [eqK_eq] at hk
  subst hk
  obtain ⟨le, hle, h4⟩ := onSome_eq h3
  have hle := decLe_sound hF hle
  rw [evalL_add, evalL_neg] at hle
  have hu := e1 φ u hx
  have hv := e2 φ v hy
  generalize hm : c + evalL φ.ρ a = m at *
  generalize hn : d + evalL φ.ρ b = n at *
  have hle : le = decide (m ≤ n) := by
    rw [hle, Bool.eq_iff_iff, decide_eq_true_eq, decide_eq_true_eq]
    show (c - d) + _ ≤ 0 ↔ _
    omega
  refine ⟨_, if (ifb mx le (!le)) = true then v else u, h4, ?_, ?_⟩
  · cases (ifb mx le (!le)) with
    | true => exact hy
    | false => exact hx
  · rw [hu, hv, hle]
    cases mx
    · rw [if_neg (by simp)]
      simp only [Builtin.min2, ifb]
      by_cases hh : n < m
      · simp [hh, show ¬ m ≤ n by omega]
      · simp [hh, show m ≤ n by omega]
    · rw [if_pos rfl]
      simp only [Builtin.max2, ifb]
      by_cases hh : m < n
      · simp [hh, show m ≤ n by omega]
      · by_cases he : m = n
        · simp [he]
        · simp [hh, show ¬ m ≤ n by omega]
theorem minmax_sound {F : List Fact} (hF : ∀ f ∈ F, f.holds φ.ρ φ.str) {mx : Bool} {r : AV} {l : List AV} : ∀ {us : List Value} {x : AV} {u : Value}, minmax F mx x l = some r → VR φ x u → All2 (VR φ) l us →
    ∃ z, (us.foldlM (if mx then Builtin.max2 else Builtin.min2) u).run P w = .ok z w ∧ VR φ r z := by
  induction l with
  | nil =>
    intro us x u h hx hl
    cases us with
    | nil => cases h; exact ⟨u, rfl, hx⟩
    | cons => exact hl.elim
  | cons y l ih =>
    intro us x u h hx hl
    cases us with
    | nil => exact hl.elim
    | cons v us =>
      obtain ⟨x', u', h1, h2, h3⟩ := minmax_step hF h hx hl.1
      obtain ⟨z, hz, hr⟩ := ih h1 h2 hl.2
      refine ⟨z, ?_, hr⟩
      rw [List.foldlM_cons, Sem.run_bind, h3]
      simpa using hz

theorem Array.map_toList_eq {α β : Type} (f : α → β) (a : Array α) : (a.map f).toList = a.toList.map f := by simp

omit hΓ in
theorem exec_builtin (ρ : Operand → Value) (dst : Option Tmp) (b : Builtin) (args : Array Operand) (argTypes : Array TypeId) (type : TypeId) (pos : String) (after : Array Edge) (guard : Option (Nat × Bool)) :
    ∃ cs, execOp ρ ⟨dst, .call ⟨.builtin b, args, argTypes⟩, type, pos, after, guard⟩ = builtin b argTypes type cs (args.map ρ) :=
  ⟨_, by simp only [execOp, resolve, pure_bind, invoke]; rfl⟩

include hΓ
/-- What is quiet. -/
theorem opB_quiet {o : Oper} {f : T → St → Option AV} (ho : (opB P Γ o).quiet = some f) (hm : MR base φ σ w) {t : T} {a : Act} (hx : ∀ x ∈ o.op.operands, OR φ t a.eval x)
    {v : AV} (h : f t σ = some v) : ∃ u, (execOp a.eval o).run P w = .ok (.value u) w ∧ VR φ v u := by
  have ret : ∀ {s : Sem Value} {u : Value}, s.run P w = .ok u w → (do let x ← s; pure (Next.value x) : Sem Next).run P w = .ok (.value u) w := by
    intro s u hs; simp [hs]
  obtain ⟨dst, op, type, pos, after, guard⟩ := o
  rw [opB_eq] at ho
  cases op <;> simp only [opB0, Bx.use_eq] at ho <;> simp only [Op.operands] at hx <;> try (cases ho; done)
  case move x => cases ho; cases h; exact ⟨_, rfl, hx x (by simp)⟩
  case assign x => cases ho; cases h; exact ⟨_, rfl, hx x (by simp)⟩
  case pick c x y =>
    cases ho
    have hc : OR φ t a.eval c := hx c (by simp)
    unfold OR at hc
    have hc : ∃ b, a.eval c = .bool b ∧ ifb b (some ((operB x).run t)) (some ((operB y).run t)) = some v := by
      rcases onB_or h with ⟨b, hb, h1⟩ | h1
      · rw [hb] at hc
        exact ⟨b, hc, h1⟩
      · obtain ⟨b, hb, h2⟩ := onSome_eq h1
        exact ⟨b, decSb_sound hm.factsHold hb hc, h2⟩
    obtain ⟨b, hc, h1⟩ := hc
    cases b with
    | true => cases h1; exact ⟨a.eval x, by simp [execOp, hc, asBool], hx x (by simp)⟩
    | false => cases h1; exact ⟨a.eval y, by simp [execOp, hc, asBool], hx y (by simp)⟩
  case build ty parts =>
    cases ho
    obtain ⟨z, hz, hr⟩ := buildB_sound (φ := φ) hΓ (cparts := parts.map fun p => (p.1, a.eval p.2)) h (by simpa using partsB_sound (t := t) (ρ := a.eval) (l := parts.toList) (by simpa using hx)) w
    exact ⟨z, ret hz, hr⟩
  case load ty x =>
    cases ho
    obtain ⟨z, hz, hr⟩ := loadB_sound hΓ hm h (hx x (by simp))
    exact ⟨z, ret hz, hr⟩
  case nilCheck x =>
    cases ho
    have := noNil_sound (P := P) (w := w) h (hx x (by simp)) ⟨dst, .nilCheck x, type, pos, after, guard⟩ x a.eval rfl rfl
    exact ⟨_, this.1, this.2⟩
  case unOp op _ x =>
    cases ho
    have h : onSome ((unB op).run ((operB x).run t)) (fun v => some v) ((unS op).run σ ((operB x).run t)) = some v := h
    cases h0 : (unB op).run ((operB x).run t) with
    | some v' =>
      rw [h0] at h
      cases h
      obtain ⟨z, hz, hr⟩ := unB_sound (P := P) (w := w) h0 (hx x (by simp))
      exact ⟨z, ret hz, hr⟩
    | none =>
      rw [h0] at h
      obtain ⟨z, hz, hr⟩ := unS_sound (P := P) hm h (hx x (by simp))
      exact ⟨z, ret hz, hr⟩
  case convert s d x =>
    cases ho
    obtain ⟨z, hz, hr⟩ := convB_sound hΓ hm h (hx x (by simp))
    exact ⟨z, ret hz, hr⟩
  case fieldAddr ty x f =>
    cases ho
    obtain ⟨z, hz, hr⟩ := fieldAddrB_sound hΓ h (hx x (by simp))
    exact ⟨z, ret (hz w), hr⟩
  case field ty x f =>
    cases ho
    obtain ⟨z, hz, hr⟩ := fieldB_sound hΓ h (hx x (by simp)) w
    exact ⟨z, ret hz, hr⟩
  case indexAddr ty x i =>
    cases ho
    obtain ⟨z, hz, hr⟩ := indexAddrB_sound hΓ h (hx x (by simp)) (hx i (by simp)) w
    exact ⟨z, ret hz, hr⟩
  case index ty x i =>
    cases ho
    obtain ⟨z, hz, hr⟩ := indexB_sound hΓ h (hx x (by simp)) (hx i (by simp)) w
    exact ⟨z, ret hz, hr⟩
  case lookup ty x i ok =>
    cases ho
    obtain ⟨z, hz, hr⟩ := lookupB_sound hΓ hm h (hx x (by simp)) (hx i (by simp))
    exact ⟨z, ret hz, hr⟩
  case entry x =>
    cases ho
    obtain ⟨z, hz, hr⟩ := entryA_sound (P := P) hm h (hx x (by simp))
    exact ⟨z, ret hz, hr⟩
  case extract x i =>
    cases ho
    obtain ⟨z, hz, hr⟩ := extract_sound (P := P) (w := w) h (hx x (by simp))
    exact ⟨z, ret hz, hr⟩
  case binOp op ty x y yt =>
    cases ho
    obtain ⟨z, hz, hr⟩ := binB_sound hΓ hm x y h (hx x (by simp)) (hx y (by simp))
    exact ⟨z, ret hz, hr⟩
  case makeInterface ty x =>
    split at ho
    · rename_i kt et ht
      cases ho
      obtain ⟨y, hy, h1⟩ := onO_some h
      have hxx : OR φ t a.eval x := hx x (by simp)
      unfold OR at hxx
      rw [hy] at hxx
      cases y <;> simp only [] at h1 <;> try (cases h1; done)
      rename_i b
      obtain ⟨g, hp, hv⟩ := (show VRo φ (.map b) (a.eval x) from hxx)
      cases h1
      refine ⟨.iface ty (a.eval x), ret ?_, g, hp, by rw [hv]⟩
      simp [Instr.makeInterface, run_underlying (hΓ.und ht)]
    · cases ho
  case makeFunc fn first captured =>
    cases fn <;> simp only at ho <;> try (cases ho; done)
    rename_i f
    cases ho
    obtain ⟨p, hp, h1⟩ := onSome_eq h
    obtain ⟨q, hq, h2⟩ := onSome_eq h1
    cases h2
    refine ⟨_, rfl, _, _, rfl, ?_, ?_⟩
    · rw [Array.map_toList_eq]; exact ptrsB_sound (fun x hxx => hx x (by simp at hxx ⊢; exact .inl hxx)) hp
    · rw [Array.map_toList_eq]; exact ptrsB_sound (fun x hxx => hx x (by simp at hxx ⊢; exact .inr hxx)) hq
  case slice ty x lo hi mx =>
    cases ho
    obtain ⟨z, hz, hr⟩ := sliceB_sound hΓ h (hx x (by simp)) (operOB_sound (ρ := a.eval) fun y hy => hx y (by simp at hy ⊢; simp [hy])) (operOB_sound (ρ := a.eval) fun y hy => hx y (by simp at hy ⊢; simp [hy]))
      (operOB_sound (ρ := a.eval) fun y hy => hx y (by simp at hy ⊢; simp [hy])) w
    exact ⟨z, ret hz, hr⟩
  case typeAssert x xt ty ok =>
    split at ho
    · rename_i kt et ht
      cases ho
      obtain ⟨y, hy, h1⟩ := onO_some h
      have hxx : OR φ t a.eval x := hx x (by simp)
      unfold OR at hxx
      rw [hy] at hxx
      cases y <;> simp only [] at h1 <;> try (cases h1; done)
      rename_i u b
      obtain ⟨hu, h2⟩ := ifb_eq h1
      rw [beq_iff] at hu
      have hu : u = ty := by simpa using hu
      subst hu
      obtain ⟨g, hp, hv⟩ := (show VRo φ (.ifc u b) (a.eval x) from hxx)
      cases ok with
      | true =>
        cases h2
        refine ⟨.tuple #[.map (some g), .bool true], ret ?_, _, rfl, ⟨g, hp, rfl⟩, rfl, trivial⟩
        simp [Instr.typeAssert, run_underlying (hΓ.und ht), hv]
      | false =>
        cases h2
        refine ⟨.map (some g), ret ?_, g, hp, rfl⟩
        simp [Instr.typeAssert, run_underlying (hΓ.und ht), hv]
    · cases ho
  case alloc e => split at ho <;> cases ho
  case makeMap ty r =>
    cases r <;> simp only at ho
    · cases ho
    · split at ho <;> cases ho
  case next it is => cases is <;> cases ho
  case call c =>
    obtain ⟨callee, args, argTypes⟩ := c
    cases callee with
    | value f => cases f <;> simp only at ho <;> first | (cases ho; done) | (split at ho <;> cases ho)
    | invoke r n => simp only at ho; cases ho
    | builtin b =>
      simp only at ho
      obtain ⟨cs, hcs⟩ := exec_builtin a.eval dst b args argTypes type pos after guard
      obtain ⟨args⟩ := args
      obtain ⟨argTypes⟩ := argTypes
      split at ho
      · -- len
        rename_i harg hty
        simp only at harg hty
        subst harg hty
        cases ho
        obtain ⟨z, hz, hr⟩ := lenB_sound hΓ hm h (hx _ (by simp [Call.operands])) type
        exact ⟨z, by rw [hcs]; exact ret (by simpa using hz), hr⟩
      · -- cap
        rename_i x ty harg hty
        simp only at harg hty
        subst harg hty
        split at ho
        · rename_i e ht
          cases ho
          obtain ⟨y, hy, h1⟩ := onO_some h
          have hxx : OR φ t a.eval x := hx x (by simp [Call.operands])
          unfold OR at hxx
          rw [hy] at hxx
          cases y <;> simp only [] at h1 <;> try (cases h1; done)
          · obtain ⟨g, o, c, hp, hv, hle, hex, _⟩ := (show VRo φ (.slc _ _ _ _ _) (a.eval x) from hxx)
            obtain ⟨he, h2⟩ := ifb_eq h1
            cases h2
            have hc := hex (by rw [beq_iff] at he; simpa using he)
            subst hc
            have hz : (Builtin.cap_ #[ty] type #[a.eval x]).run P w = .ok (goInt c) w := by simp [Builtin.cap_, run_underlying (hΓ.und ht), hv]
            exact ⟨_, by rw [hcs, show Array.map a.eval ⟨[x]⟩ = #[a.eval x] by simp]; exact ret hz, rfl⟩
          · have hv : a.eval x = .slice none 0 0 := hxx
            cases h1
            have hz : (Builtin.cap_ #[ty] type #[a.eval x]).run P w = .ok (goInt 0) w := by simp [Builtin.cap_, run_underlying (hΓ.und ht), hv]
            exact ⟨_, by rw [hcs, show Array.map a.eval ⟨[x]⟩ = #[a.eval x] by simp]; exact ret hz, rfl⟩
        · cases ho
      · -- max
        rename_i harg
        simp only at harg
        subst harg
        cases ho
        obtain ⟨z, hz, hr⟩ := minmax_sound (P := P) (w := w) hm.factsHold h (hx _ (by simp [Call.operands])) (opersB_sound (ρ := a.eval) fun y hy => hx y (by simp [Call.operands, hy]))
        rw [if_pos rfl] at hz
        refine ⟨z, ?_, hr⟩
        rw [hcs]
        refine ret (u := z) ?_
        simpa [Builtin.max_] using hz
      · -- min
        rename_i harg
        simp only at harg
        subst harg
        cases ho
        obtain ⟨z, hz, hr⟩ := minmax_sound (P := P) (w := w) hm.factsHold h (hx _ (by simp [Call.operands])) (opersB_sound (ρ := a.eval) fun y hy => hx y (by simp [Call.operands, hy]))
        rw [if_neg (by simp)] at hz
        refine ⟨z, ?_, hr⟩
        rw [hcs]
        refine ret (u := z) ?_
        simpa [Builtin.min_] using hz
      all_goals (cases ho)
end
end Go.Ev
