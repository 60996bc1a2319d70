/-
  What is read and reckoned, second half: each quiet operation.
-/
import Derived.Test.YtjjnhpoemcihgaaGreatEvg
import Derived.Laws.BytesString
namespace Go.Ev

section
variable {P : Program} {w : World} {t : TypeId} (d : Nat)
theorem eqIn_pn {e : TypeId} (h : P.underlying t = some (.pointer e)) (b : Option Addr) : (Op.equalIn (d + 1) t (.pointer none) (.pointer b)).run P w = .ok b.isNone w := by
  simp [Op.equalIn, run_underlying h]
theorem eqIn_pp {e : TypeId} (h : P.underlying t = some (.pointer e)) (a : Addr) : (Op.equalIn (d + 1) t (.pointer (some a)) (.pointer none)).run P w = .ok false w := by
  simp [Op.equalIn, run_underlying h]
theorem eqIn_ps {e n : Nat} (h : P.underlying t = some (.pointer e)) (hs : (sizeOf e).run P w = .ok (n + 1) w) (a b : Addr) {r : Bool} (hr : (sameAddr a b).run P w = .ok r w) :
    (Op.equalIn (d + 1) t (.pointer (some a)) (.pointer (some b))).run P w = .ok r w := by
  simp [Op.equalIn, run_underlying h, hs, hr]
theorem eqIn_sn {e : TypeId} (h : P.underlying t = some (.slice e)) (b : Option Addr) (n c : Nat) : (Op.equalIn (d + 1) t (.slice none 0 0) (.slice b n c)).run P w = .ok b.isNone w := by
  simp [Op.equalIn, run_underlying h]
theorem eqIn_ss {e : TypeId} (h : P.underlying t = some (.slice e)) (a : Addr) (n c : Nat) : (Op.equalIn (d + 1) t (.slice (some a) n c) (.slice none 0 0)).run P w = .ok false w := by
  simp [Op.equalIn, run_underlying h]
theorem eqIn_mn {k e : TypeId} (h : P.underlying t = some (.map k e)) (b : Option Nat) : (Op.equalIn (d + 1) t (.map none) (.map b)).run P w = .ok b.isNone w := by
  simp [Op.equalIn, run_underlying h]
theorem eqIn_mm {k e : TypeId} (h : P.underlying t = some (.map k e)) (a : Nat) : (Op.equalIn (d + 1) t (.map (some a)) (.map none)).run P w = .ok false w := by
  simp [Op.equalIn, run_underlying h]
theorem eqIn_ff {ps rs : Array TypeId} {q : Bool} (h : P.underlying t = some (.func ps rs q)) : (Op.equalIn (d + 1) t .nilFunc .nilFunc).run P w = .ok true w := by
  simp [Op.equalIn, run_underlying h]
theorem eqIn_fn {ps rs : Array TypeId} {q : Bool} (h : P.underlying t = some (.func ps rs q)) (f : Fn) (a b : Array Value) : (Op.equalIn (d + 1) t .nilFunc (.func f a b)).run P w = .ok false w := by
  simp [Op.equalIn, run_underlying h]
theorem eqIn_nf {ps rs : Array TypeId} {q : Bool} (h : P.underlying t = some (.func ps rs q)) (f : Fn) (a b : Array Value) : (Op.equalIn (d + 1) t (.func f a b) .nilFunc).run P w = .ok false w := by
  simp [Op.equalIn, run_underlying h]
theorem eqIn_in {ms : Array (String × TypeId)} (h : P.underlying t = some (.interface ms)) (u : TypeId) (v : Value) : (Op.equalIn (d + 1) t .nilIface (.iface u v)).run P w = .ok false w := by
  simp [Op.equalIn, run_underlying h]
theorem eqIn_ni {ms : Array (String × TypeId)} (h : P.underlying t = some (.interface ms)) (u : TypeId) (v : Value) : (Op.equalIn (d + 1) t (.iface u v) .nilIface).run P w = .ok false w := by
  simp [Op.equalIn, run_underlying h]
end
theorem eqB_agg {P : Program} {Γ : Tab} {d : Nat} {t : TypeId} (hu : (∃ fs, Γ.und t = some (.struct fs)) ∨ ∃ n e, Γ.und t = some (.array n e)) {F : List Fact} {x y : AV} {r : Bool} (h : (eqB P Γ (d + 1) t).run F x y = some r) :
    ∃ xs ys, x = .a xs ∧ y = .a ys := by
  rcases hu with ⟨fs, hu⟩ | ⟨n, e, hu⟩
  · simp only [eqB, hu] at h
    cases hs : P.stoodInHeld t with
    | true => rw [hs] at h; cases h
    | false =>
      rw [hs] at h
      obtain ⟨xs, rfl, h⟩ := onA_some h
      obtain ⟨ys, rfl, h⟩ := onA_some h
      exact ⟨xs, ys, rfl, rfl⟩
  · simp only [eqB, hu] at h
    cases hs : Γ.size e with
    | none => rw [hs] at h; cases h
    | some n =>
      rw [hs] at h
      obtain ⟨xs, rfl, h⟩ := onA_some h
      obtain ⟨ys, rfl, h⟩ := onA_some h
      exact ⟨xs, ys, rfl, rfl⟩
theorem guard_free (P : Program) (w : World) (op : BinOp) (t : TypeId) (ox oy : Operand) (u v : Value) (h1 : ¬ (u = .nilIface ∧ v = .nilIface)) (h2 : ∀ a b, ¬ (u = .agg a ∧ v = .agg b)) :
    (eqGuard op t ox oy u v).run P w = .ok () w := by
  cases op <;> simp [eqGuard] <;> (split <;> simp_all)

section
variable {P : Program} {Γ : Tab} (hΓ : TabOk P Γ) {φ : Phi} {base : Nat} {σ : St} {w : World}

theorem VR.int_inv {k : IntKind} {n : Int} {u : Value} (h : VR φ (.int k n) u) : u = .int k n := h
theorem VR.bool_inv {b : Bool} {u : Value} (h : VR φ (.bool b) u) : u = .bool b := h

theorem MR.cellsAt (hm : MR base φ σ w) {b : Nat} {e : TypeId} {l : List Cell} {rel : List Nat} {old : Bool} (hb : hget σ b = .cells e l rel old) {g o : Nat} (hp : φ b = some (g, o)) :
    ∃ cur, w.heap[g]? = some (.cells cur e (0, 0)) ∧ CR φ l o cur := by
  have := hm.blk b
  rw [hb] at this
  obtain ⟨cur, h1, h2, _⟩ := this g o hp
  exact ⟨cur, h1, h2⟩
theorem MR.mapAt (hm : MR base φ σ w) {b : Nat} {es : List (AV × AV × Nat)} {c : Nat} (hb : hget σ b = .map es c) {g o : Nat} (hp : φ b = some (g, o)) :
    o = 0 ∧ ∃ ces, w.heap[g]? = some (.map ces c) ∧ All2 (ER φ) es ces.toList := by
  have := hm.blk b
  rw [hb] at this
  exact this g o hp

theorem related_false {a b : Nat} (h : related σ a b = false) : ∃ e l r o e' l' r' o', hget σ a = .cells e l r o ∧ hget σ b = .cells e' l' r' o' ∧ has b r = false ∧ has a r' = false := by
  unfold related at h
  cases ha : hget σ a <;> rw [ha] at h <;> simp [ABlk.onCells] at h
  cases hb : hget σ b <;> rw [hb] at h <;> simp at h
  rename_i e l r o e' l' r' o'
  refine ⟨e, l, r, o, e', l', r', o', rfl, rfl, ?_⟩
  cases hh : has b r <;> rw [hh] at h <;> simp at h
  exact ⟨rfl, h⟩
theorem has_iff (b : Nat) : ∀ l, has b l = true ↔ b ∈ l
  | [] => by simp [has]
  | a :: l => by
    simp only [has, List.mem_cons]
    cases h : Nat.beq a b with
    | false =>
      have : a ≠ b := by rw [beq_iff] at h; simpa using h
      simp [has_iff b l, Ne.symm this]
    | true =>
      have : a = b := by rw [beq_iff] at h; simpa using h
      simp [this]

theorem run_sameAddr_block (P : Program) (w : World) (g i j : Nat) : (sameAddr ⟨g, i, none⟩ ⟨g, j, none⟩).run P w = .ok (i == j) w := by
  have : ((⟨g, i, none⟩ : Addr) == ⟨g, j, none⟩) = (i == j) := by
    rw [Bool.eq_iff_iff]; simp
  simp [sameAddr, this]
theorem run_sameAddr_apart (P : Program) {w : World} {g h i j : Nat} (hne : g ≠ h) {c1 c2 : Array Value} {e1 e2 : TypeId} (h1 : w.heap[g]? = some (.cells c1 e1 (0, 0))) (h2 : w.heap[h]? = some (.cells c2 e2 (0, 0))) :
    (sameAddr ⟨g, i, none⟩ ⟨h, j, none⟩).run P w = .ok false w := by
  have hb : (g == h) = false := by simpa using hne
  have f1 : ∀ k, w.frozen? ⟨g, k, none⟩ = false := fun k => by simp [World.frozen?, h1]
  have f2 : ∀ k, w.frozen? ⟨h, k, none⟩ = false := fun k => by simp [World.frozen?, h2]
  have s1 : w.shape? g = some (e1, c1.size) := by simp [World.shape?, h1]
  have s2 : w.shape? h = some (e2, c2.size) := by simp [World.shape?, h2]
  simp [sameAddr, hb, f1, f2, noView, viewAt, s1, s2, mayBeOne, stringish]

include hΓ
theorem eqAB_sound (hm : MR base φ σ w) {t : TypeId} {x y : AV} {r : Bool} {u v : Value} (h : (eqAB P Γ t).run σ x y = some r) (hx : VR φ x u) (hy : VR φ y v) :
    (∀ op ox oy, (eqGuard op t ox oy u v).run P w = .ok () w) ∧ (binOp .eql t u v).run P w = .ok (.bool r) w ∧ (binOp .neq t u v).run P w = .ok (.bool (!r)) w := by
  have fin : (Op.equal t u v).run P w = .ok r w → (∀ op ox oy, (eqGuard op t ox oy u v).run P w = .ok () w) →
      (binOp .eql t u v = (do pure (.bool (← Op.equal t u v))) ∧ binOp .neq t u v = (do pure (.bool (!(← Op.equal t u v))))) →
      (∀ op ox oy, (eqGuard op t ox oy u v).run P w = .ok () w) ∧ (binOp .eql t u v).run P w = .ok (.bool r) w ∧ (binOp .neq t u v).run P w = .ok (.bool (!r)) w := by
    intro h1 h2 h3
    refine ⟨h2, ?_, ?_⟩
    · rw [h3.1]; simp [h1]
    · rw [h3.2]; simp [h1]
  unfold eqAB at h
  split at h
  · -- pointers
    rename_i e hu
    have hd := hΓ.und hu
    split at h
    · rename_i n hs
      obtain ⟨i, hi, hn⟩ := hΓ.size hs
      have hsz : (sizeOf e).run P w = .ok (n + 1) w := by simp [sizeOf, typeInfo, hi, hn]
      cases x with
      | a l => simp [AV.onP, AV.onO] at h
      | t l => simp [AV.onP, AV.onO] at h
      | c x =>
        cases x with
        | i k n => simp [AV.onP, AV.onO] at h
        | b z => simp [AV.onP, AV.onO] at h
        | s z => simp [AV.onP, AV.onO] at h
        | p a i =>
          obtain ⟨g, o, hpa, rfl⟩ := hx
          have hpa : φ a = some (g, o) := hpa
          cases y with
          | a l => simp [AV.onP, AV.onO] at h
          | t l => simp [AV.onP, AV.onO] at h
          | c y =>
            cases y with
            | i k n => simp [AV.onP, AV.onO] at h
            | b z => simp [AV.onP, AV.onO] at h
            | s z => simp [AV.onP, AV.onO] at h
            | p b j =>
              obtain ⟨g', o', hpb, rfl⟩ := hy
              have hpb : φ b = some (g', o') := hpb
              have h : ifb (Nat.beq a b) (some (Nat.beq i j)) (ifb (related σ a b) none (some false)) = some r := h
              refine fin ?_ (fun op ox oy => guard_free P w op t ox oy _ _ (by simp) (by simp)) ⟨by simp [binOp], by simp [binOp]⟩
              cases hab : Nat.beq a b with
              | true =>
                rw [hab] at h
                cases h
                have : a = b := by rw [beq_iff] at hab; simpa using hab
                subst this
                rw [hpa] at hpb; cases hpb
                have e1 : (o + i == o + j) = Nat.beq i j := by rw [beq_iff, Bool.eq_iff_iff]; simp
                exact eqIn_ps 9999 hd hsz _ _ (by rw [run_sameAddr_block, e1])
              | false =>
                rw [hab] at h
                obtain ⟨hrel, h⟩ := ifb_none h
                cases h
                have hne : a ≠ b := by rw [beq_iff] at hab; simpa using hab
                obtain ⟨e1, l1, r1, o1, e2, l2, r2, o2, ha, hb, hr1, hr2⟩ := related_false hrel
                obtain ⟨c1, hc1, _⟩ := hm.cellsAt ha hpa
                obtain ⟨c2, hc2, _⟩ := hm.cellsAt hb hpb
                have hgg : g ≠ g' := by
                  intro e; subst e
                  rcases hm.apart a b g o o' hne (by unfold live; rw [ha]; simp) (by unfold live; rw [hb]; simp) hpa hpb with ⟨hh, _⟩ | ⟨hh, _⟩
                  · rw [hb] at hh; have := (has_iff a r2).2 hh; rw [hr2] at this; cases this
                  · rw [ha] at hh; have := (has_iff b r1).2 hh; rw [hr1] at this; cases this
                exact eqIn_ps 9999 hd hsz _ _ (run_sameAddr_apart P hgg hc1 hc2)
            | o y =>
              cases y <;> simp [AV.onP, AV.onO] at h
              subst h
              have hy : v = .pointer none := hy
              subst hy
              refine fin ?_ (fun op ox oy => guard_free P w op t ox oy _ _ (by simp) (by simp)) ⟨by simp [binOp], by simp [binOp]⟩
              first | exact eqIn_pn 9999 hd _ | exact eqIn_pp 9999 hd _ | exact eqIn_sn 9999 hd _ _ _ | exact eqIn_ss 9999 hd _ _ _ | exact eqIn_mn 9999 hd _ | exact eqIn_mm 9999 hd _ | exact eqIn_ff 9999 hd | exact eqIn_fn 9999 hd _ _ _ | exact eqIn_nf 9999 hd _ _ _ | exact eqIn_in 9999 hd _ _ | exact eqIn_ni 9999 hd _ _
        | o x =>
          cases x <;> simp [AV.onP, AV.onO] at h
          have hx : u = .pointer none := hx
          subst hx
          cases y with
          | a l => simp at h
          | t l => simp at h
          | c y =>
            cases y with
            | i k n => simp at h
            | b z => simp at h
            | s z => simp at h
            | p b j =>
              obtain ⟨g', o', hpb, rfl⟩ := hy
              simp at h
              subst h
              refine fin ?_ (fun op ox oy => guard_free P w op t ox oy _ _ (by simp) (by simp)) ⟨by simp [binOp], by simp [binOp]⟩
              first | exact eqIn_pn 9999 hd _ | exact eqIn_pp 9999 hd _ | exact eqIn_sn 9999 hd _ _ _ | exact eqIn_ss 9999 hd _ _ _ | exact eqIn_mn 9999 hd _ | exact eqIn_mm 9999 hd _ | exact eqIn_ff 9999 hd | exact eqIn_fn 9999 hd _ _ _ | exact eqIn_nf 9999 hd _ _ _ | exact eqIn_in 9999 hd _ _ | exact eqIn_ni 9999 hd _ _
            | o y =>
              cases y <;> simp at h
              subst h
              have hy : v = .pointer none := hy
              subst hy
              refine fin ?_ (fun op ox oy => guard_free P w op t ox oy _ _ (by simp) (by simp)) ⟨by simp [binOp], by simp [binOp]⟩
              first | exact eqIn_pn 9999 hd _ | exact eqIn_pp 9999 hd _ | exact eqIn_sn 9999 hd _ _ _ | exact eqIn_ss 9999 hd _ _ _ | exact eqIn_mn 9999 hd _ | exact eqIn_mm 9999 hd _ | exact eqIn_ff 9999 hd | exact eqIn_fn 9999 hd _ _ _ | exact eqIn_nf 9999 hd _ _ _ | exact eqIn_in 9999 hd _ _ | exact eqIn_ni 9999 hd _ _
    · cases h
  · rename_i e hu
    have hd := hΓ.und hu
    obtain ⟨x, rfl, h1⟩ := onO_some h
    obtain ⟨y, rfl, h2⟩ := onO_some h1
    clear h h1
    cases x <;> cases y <;> simp at h2
    all_goals
      subst h2
      first
        | (obtain ⟨g, o, c, _, rfl, _⟩ := hx; have hy : v = .slice none 0 0 := hy; subst hy)
        | (have hx : u = .slice none 0 0 := hx; subst hx; obtain ⟨g, o, c, _, rfl, _⟩ := hy)
        | (have hx : u = .slice none 0 0 := hx; subst hx; have hy : v = .slice none 0 0 := hy; subst hy)
      refine fin ?_ (fun op ox oy => guard_free P w op t ox oy _ _ (by simp) (by simp)) ⟨by simp [binOp], by simp [binOp]⟩
      first | exact eqIn_pn 9999 hd _ | exact eqIn_pp 9999 hd _ | exact eqIn_sn 9999 hd _ _ _ | exact eqIn_ss 9999 hd _ _ _ | exact eqIn_mn 9999 hd _ | exact eqIn_mm 9999 hd _ | exact eqIn_ff 9999 hd | exact eqIn_fn 9999 hd _ _ _ | exact eqIn_nf 9999 hd _ _ _ | exact eqIn_in 9999 hd _ _ | exact eqIn_ni 9999 hd _ _
  · rename_i k e hu
    have hd := hΓ.und hu
    obtain ⟨x, rfl, h1⟩ := onO_some h
    obtain ⟨y, rfl, h2⟩ := onO_some h1
    clear h h1
    cases x <;> cases y <;> simp at h2
    all_goals
      subst h2
      first
        | (obtain ⟨g, _, rfl⟩ := hx; have hy : v = .map none := hy; subst hy)
        | (have hx : u = .map none := hx; subst hx; obtain ⟨g, _, rfl⟩ := hy)
        | (have hx : u = .map none := hx; subst hx; have hy : v = .map none := hy; subst hy)
      refine fin ?_ (fun op ox oy => guard_free P w op t ox oy _ _ (by simp) (by simp)) ⟨by simp [binOp], by simp [binOp]⟩
      first | exact eqIn_pn 9999 hd _ | exact eqIn_pp 9999 hd _ | exact eqIn_sn 9999 hd _ _ _ | exact eqIn_ss 9999 hd _ _ _ | exact eqIn_mn 9999 hd _ | exact eqIn_mm 9999 hd _ | exact eqIn_ff 9999 hd | exact eqIn_fn 9999 hd _ _ _ | exact eqIn_nf 9999 hd _ _ _ | exact eqIn_in 9999 hd _ _ | exact eqIn_ni 9999 hd _ _
  · rename_i k e q hu
    have hd := hΓ.und hu
    obtain ⟨x, rfl, h1⟩ := onO_some h
    obtain ⟨y, rfl, h2⟩ := onO_some h1
    clear h h1
    cases x <;> cases y <;> simp at h2
    all_goals
      subst h2
      first
        | (obtain ⟨vs, ws, rfl, _⟩ := hx; have hy : v = .nilFunc := hy; subst hy)
        | (have hx : u = .nilFunc := hx; subst hx; obtain ⟨vs, ws, rfl, _⟩ := hy)
        | (have hx : u = .nilFunc := hx; subst hx; have hy : v = .nilFunc := hy; subst hy)
      refine fin ?_ (fun op ox oy => guard_free P w op t ox oy _ _ (by simp) (by simp)) ⟨by simp [binOp], by simp [binOp]⟩
      first | exact eqIn_pn 9999 hd _ | exact eqIn_pp 9999 hd _ | exact eqIn_sn 9999 hd _ _ _ | exact eqIn_ss 9999 hd _ _ _ | exact eqIn_mn 9999 hd _ | exact eqIn_mm 9999 hd _ | exact eqIn_ff 9999 hd | exact eqIn_fn 9999 hd _ _ _ | exact eqIn_nf 9999 hd _ _ _ | exact eqIn_in 9999 hd _ _ | exact eqIn_ni 9999 hd _ _
  · rename_i ms hu
    have hd := hΓ.und hu
    obtain ⟨x, rfl, h1⟩ := onO_some h
    obtain ⟨y, rfl, h2⟩ := onO_some h1
    clear h h1
    cases x <;> cases y <;> simp at h2
    all_goals
      subst h2
      first
        | (obtain ⟨g, _, rfl⟩ := hx; have hy : v = .nilIface := hy; subst hy)
        | (have hx : u = .nilIface := hx; subst hx; obtain ⟨g, _, rfl⟩ := hy)
      refine fin ?_ (fun op ox oy => guard_free P w op t ox oy _ _ (by simp) (by simp)) ⟨by simp [binOp], by simp [binOp]⟩
      first | exact eqIn_pn 9999 hd _ | exact eqIn_pp 9999 hd _ | exact eqIn_sn 9999 hd _ _ _ | exact eqIn_ss 9999 hd _ _ _ | exact eqIn_mn 9999 hd _ | exact eqIn_mm 9999 hd _ | exact eqIn_ff 9999 hd | exact eqIn_fn 9999 hd _ _ _ | exact eqIn_nf 9999 hd _ _ _ | exact eqIn_in 9999 hd _ _ | exact eqIn_ni 9999 hd _ _
  · rename_i fs hu
    cases hg : P.eqGuardType P.depth t with
    | true => rw [hg] at h; cases h
    | false =>
      rw [hg] at h
      obtain ⟨xs, ys, rfl, rfl⟩ := eqB_agg (Γ := Γ) (d := 9999) (.inl ⟨fs, hu⟩) h
      have he := eqB_sound hΓ (φ := φ) hm.factsHold 10000 t _ _ r u v w h hx hy
      obtain ⟨us, rfl, hx⟩ := hx
      obtain ⟨vs, rfl, hy⟩ := hy
      exact fin he (fun op ox oy => run_eqGuard_agg w op t ox oy us vs hg) ⟨by simp [binOp], by simp [binOp]⟩
  · rename_i len e hu
    cases hg : P.eqGuardType P.depth t with
    | true => rw [hg] at h; cases h
    | false =>
      rw [hg] at h
      obtain ⟨xs, ys, rfl, rfl⟩ := eqB_agg (Γ := Γ) (d := 9999) (.inr ⟨len, e, hu⟩) h
      have he := eqB_sound hΓ (φ := φ) hm.factsHold 10000 t _ _ r u v w h hx hy
      obtain ⟨us, rfl, hx⟩ := hx
      obtain ⟨vs, rfl, hy⟩ := hy
      exact fin he (fun op ox oy => run_eqGuard_agg w op t ox oy us vs hg) ⟨by simp [binOp], by simp [binOp]⟩
  · rename_i hu
    obtain ⟨a, rfl, h1⟩ := onB_some h
    obtain ⟨b, rfl, h2⟩ := onB_some h1
    cases h2
    have hx : u = .bool a := hx
    have hy : v = .bool b := hy
    subst hx; subst hy
    refine fin ?_ (fun op ox oy => guard_free P w op t ox oy _ _ (by simp) (by simp)) ⟨by simp [binOp], by simp [binOp]⟩
    rw [show Op.equal t (Value.bool a) (Value.bool b) = Op.equalIn (9999 + 1) t (Value.bool a) (Value.bool b) from rfl, run_equalIn_bool' w 9999 t a b (hΓ.und hu)]
    cases a <;> cases b <;> rfl
  · cases h

omit hΓ in
theorem shiftN_eq (k : IntKind) (b : Nat) : shiftN k b = min b k.bits := by
  unfold shiftN
  rw [ble_iff]
  by_cases hb : b ≤ k.bits
  · simp [hb] <;> omega
  · simp [hb] <;> omega
omit hΓ in
theorem run_shl (P : Program) (w : World) (t : TypeId) (k j : IntKind) (a : Int) (b : Nat) :
    (binOp .shl t (.int k a) (.int j (.ofNat b))).run P w = .ok (.int k (k.wrap (a * 2 ^ (min b k.bits)))) w := by
  have h0 : ¬ (Int.ofNat b < 0) := by have : Int.ofNat b = (b : Int) := rfl
                                      omega
  simp only [binOp, Op.shift, if_neg h0, Sem.run_pure]
  rfl
omit hΓ in
theorem run_shr (P : Program) (w : World) (t : TypeId) (k j : IntKind) (a : Int) (b : Nat) :
    (binOp .shr t (.int k a) (.int j (.ofNat b))).run P w = .ok (.int k (a.fdiv (2 ^ (min b k.bits)))) w := by
  have h0 : ¬ (Int.ofNat b < 0) := by have : Int.ofNat b = (b : Int) := rfl
                                      omega
  simp only [binOp, Op.shift, if_neg h0, Sem.run_pure]
  rfl

theorem binB0_sound (hm : MR base φ σ w) {op : BinOp} {t : TypeId} {x y : AV} {r : AV} {u v : Value} (ox oy : Operand) (h : (binB0 P Γ op t).run σ x y = some r) (hx : VR φ x u) (hy : VR φ y v) :
    ∃ z, ((do eqGuard op t ox oy u v; binOp op t u v) : Sem Value).run P w = .ok z w ∧ VR φ r z := by
  have fin : ∀ z, (eqGuard op t ox oy u v).run P w = .ok () w → (binOp op t u v).run P w = .ok z w → VR φ r z → ∃ z, ((do eqGuard op t ox oy u v; binOp op t u v) : Sem Value).run P w = .ok z w ∧ VR φ r z :=
    fun z h1 h2 h3 => ⟨z, by simp [h1, h2], h3⟩
  have nums : ∀ k a b, x = .int k a → y = .int k b → (intB op).run k a b = some r → op ≠ .shl → op ≠ .shr → ∃ z, ((do eqGuard op t ox oy u v; binOp op t u v) : Sem Value).run P w = .ok z w ∧ VR φ r z := by
    intro k a b h1 h2 h3 h4 h5
    subst h1; subst h2
    have hx : u = .int k a := hx
    have hy : v = .int k b := hy
    subst hx; subst hy
    obtain ⟨z, hz, hr⟩ := intB_sound h3 ⟨h4, h5⟩ P t w φ
    exact fin z (guard_free P w op t ox oy _ _ (by simp) (by simp)) hz hr
  have strs : ∀ a b, x = .str a → y = .str b → (strB op).run a b = some r → ∃ z, ((do eqGuard op t ox oy u v; binOp op t u v) : Sem Value).run P w = .ok z w ∧ VR φ r z := by
    intro a b h1 h2 h3
    subst h1; subst h2
    obtain ⟨s, rfl, rfl⟩ := hx
    obtain ⟨s', rfl, rfl⟩ := hy
    obtain ⟨z, hz, hr⟩ := strB_sound h3 P t w φ
    exact fin z (guard_free P w op t ox oy _ _ (by simp) (by simp)) hz hr
  have rest : ∀ {f : List Nat → List Nat → Option AV} {g : IntKind → Int → Int → Option AV} {e : Option AV},
      x.onI (fun k a => y.onI (fun j b => ifb (eqK k j) (g k a b) none) none) (x.onS (fun a => y.onS (fun b => f a b) none) e) = some r →
      (∃ k a b, x = .int k a ∧ y = .int k b ∧ g k a b = some r) ∨ (∃ a b, x = .str a ∧ y = .str b ∧ f a b = some r) ∨ e = some r := by
    intro f g e hh
    cases x with
    | a l => exact .inr (.inr hh)
    | t l => exact .inr (.inr hh)
    | c x =>
      cases x with
      | i k n =>
        have hh : y.onI (fun j b => ifb (eqK k j) (g k n b) none) none = some r := hh
        obtain ⟨j, b, rfl, h1⟩ := onI_some hh
        obtain ⟨hk, h2⟩ := ifb_eq h1
        rw [eqK_eq] at hk
        subst hk
        exact .inl ⟨k, n, b, rfl, rfl, h2⟩
      | p b o => exact .inr (.inr hh)
      | b z => exact .inr (.inr hh)
      | s s =>
        have hh : y.onS (fun b => f s b) none = some r := hh
        obtain ⟨b, rfl, h1⟩ := onS_some hh
        exact .inr (.inl ⟨s, b, rfl, rfl, h1⟩)
      | o z => exact .inr (.inr hh)
  have other : op ≠ .shl → op ≠ .shr → op ≠ .eql → op ≠ .neq → (x.onI (fun k a => y.onI (fun j b => ifb (eqK k j) ((intB op).run k a b) none) none) (x.onS (fun a => y.onS (fun b => (strB op).run a b) none) none)) = some r →
      ∃ z, ((do eqGuard op t ox oy u v; binOp op t u v) : Sem Value).run P w = .ok z w ∧ VR φ r z := by
    intro h1 h2 h3 h4 hh
    rcases rest hh with ⟨k, a, b, e1, e2, e3⟩ | ⟨a, b, e1, e2, e3⟩ | e
    · exact nums k a b e1 e2 e3 h1 h2
    · exact strs a b e1 e2 e3
    · cases e
  cases op
  case shl =>
    clear nums strs rest other
    obtain ⟨k, a, rfl, h1⟩ := onI_some h
    obtain ⟨j, b, rfl, h2⟩ := onN_some h1
    cases h2
    have hx : u = .int k a := hx
    have hy : v = .int j (.ofNat b) := hy
    subst hx; subst hy
    refine fin (.int k (k.wrap (a * 2 ^ (min b k.bits)))) (guard_free P w _ t ox oy _ _ (by simp) (by simp)) (run_shl P w t k j a b) ?_
    show _ = Value.int k _
    rw [wrapF_eq]
    rw [show Int.mul a (Int.ofNat (Nat.pow 2 (shiftN k b))) = a * 2 ^ (min b k.bits) from by rw [shiftN_eq]; show a * (((2 ^ min b k.bits : Nat)) : Int) = _; rw [Int.natCast_pow]; rfl]
  case shr =>
    clear nums strs rest other
    obtain ⟨k, a, rfl, h1⟩ := onI_some h
    obtain ⟨j, b, rfl, h2⟩ := onN_some h1
    cases h2
    have hx : u = .int k a := hx
    have hy : v = .int j (.ofNat b) := hy
    subst hx; subst hy
    refine fin (.int k (a.fdiv (2 ^ (min b k.bits)))) (guard_free P w _ t ox oy _ _ (by simp) (by simp)) (run_shr P w t k j a b) ?_
    show _ = Value.int k _
    rw [show Int.fdiv a (Int.ofNat (Nat.pow 2 (shiftN k b))) = a.fdiv (2 ^ (min b k.bits)) from by rw [shiftN_eq]; show a.fdiv (((2 ^ min b k.bits : Nat)) : Int) = _; rw [Int.natCast_pow]; rfl]
  case eql =>
    rcases rest (f := fun a b => some (.bool (eqNats a b))) (g := fun _ a b => some (.bool (eqI a b))) h with ⟨k, a, b, e1, e2, e3⟩ | ⟨a, b, e1, e2, e3⟩ | e
    · exact nums k a b e1 e2 e3 (by simp) (by simp)
    · exact strs a b e1 e2 e3
    · obtain ⟨q, hq, e⟩ := onSome_eq e
      cases e
      obtain ⟨g1, g2, g3⟩ := eqAB_sound hΓ hm hq hx hy
      exact fin _ (g1 _ _ _) g2 rfl
  case neq =>
    rcases rest (f := fun a b => some (.bool (!(eqNats a b)))) (g := fun _ a b => some (.bool (!(eqI a b)))) h with ⟨k, a, b, e1, e2, e3⟩ | ⟨a, b, e1, e2, e3⟩ | e
    · exact nums k a b e1 e2 e3 (by simp) (by simp)
    · exact strs a b e1 e2 e3
    · obtain ⟨q, hq, e⟩ := onSome_eq e
      cases e
      obtain ⟨g1, g2, g3⟩ := eqAB_sound hΓ hm hq hx hy
      exact fin _ (g1 _ _ _) g3 rfl
  all_goals exact other (by simp) (by simp) (by simp) (by simp) h
end

end Go.Ev
