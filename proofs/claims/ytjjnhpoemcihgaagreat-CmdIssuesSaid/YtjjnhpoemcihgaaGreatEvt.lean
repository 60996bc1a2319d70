/-
  Operations in whatever order: what is known ahead of the run.
-/
import Derived.Test.YtjjnhpoemcihgaaGreatEvs
namespace Go.Ev

theorem mem_depsOf {o : Oper} {d : Nat} : d ∈ depsOf o ↔ ∃ e ∈ o.after, Region.binds .any e = true ∧ e.on = d := by
  unfold depsOf
  rw [List.mem_filterMap]
  constructor
  · rintro ⟨e, he, h⟩
    cases hb : Region.binds .any e with
    | true => simp only [hb] at h; exact ⟨e, by simpa using he, hb, by simpa using h⟩
    | false => simp only [hb] at h; cases h
  · rintro ⟨e, he, hb, rfl⟩
    exact ⟨e, by simpa using he, by simp only [hb]⟩

theorem testBit_shift (d x : Nat) : (Nat.shiftLeft 1 d).testBit x = decide (x = d) := by
  have : Nat.shiftLeft 1 d = 2 ^ d := by show 1 <<< d = 2 ^ d; simp [Nat.shiftLeft_eq]
  rw [this, Nat.testBit_two_pow]
  by_cases h : d = x
  · subst h; simp
  · simp [h, Ne.symm h]

theorem orMasks_bit {B : List Nat} : ∀ {l : List Nat} {m : Nat}, orMasks B l = some m → ∀ x, m.testBit x = true → ∃ d ∈ l, ∃ md, B[d]? = some md ∧ (md.testBit x = true ∨ x = d)
  | [], m, h, x, hx => by cases h; simp at hx
  | d :: l, m, h, x, hx => by
    unfold orMasks at h
    cases hd : nth d B with
    | none => simp only [hd] at h; cases h
    | some md =>
      simp only [hd] at h
      cases hr : orMasks B l with
      | none => simp only [hr] at h; cases h
      | some r =>
        simp only [hr, Option.some.injEq] at h
        subst h
        have hx : ((md ||| Nat.shiftLeft 1 d) ||| r).testBit x = true := hx
        rw [Nat.testBit_or, Nat.testBit_or, testBit_shift] at hx
        rw [nth_eq] at hd
        simp only [Bool.or_eq_true, decide_eq_true_eq] at hx
        rcases hx with (hx | hx) | hx
        · exact ⟨d, by simp, md, hd, .inl hx⟩
        · exact ⟨d, by simp, md, hd, .inr hx⟩
        · obtain ⟨d', h1, h2⟩ := orMasks_bit hr x hx
          exact ⟨d', by simp [h1], h2⟩

theorem masks_spec : ∀ {l : List Oper} {B A : List Nat}, masks l B = some A → (∃ R, A = B ++ R) ∧ ∀ (j : Nat) (o : Oper), l[j]? = some o → ∃ m, A[B.length + j]? = some m ∧ orMasks (A.take (B.length + j)) (depsOf o) = some m
  | [], B, A, h => by cases h; exact ⟨⟨[], by simp⟩, fun j o hj => by simp at hj⟩
  | x :: l, B, A, h => by
    unfold masks at h
    cases hm : orMasks B (depsOf x) with
    | none => simp only [hm] at h; cases h
    | some m =>
      simp only [hm] at h
      obtain ⟨⟨R, hR⟩, h2⟩ := masks_spec h
      refine ⟨⟨m :: R, by rw [hR]; simp⟩, fun j o hj => ?_⟩
      cases j with
      | zero =>
        simp at hj
        subst hj
        refine ⟨m, by rw [hR]; simp, ?_⟩
        rw [hR]
        simpa using hm
      | succ j =>
        obtain ⟨m', h3, h4⟩ := h2 j o (by simpa using hj)
        rw [List.length_append, List.length_singleton] at h3 h4
        refine ⟨m', ?_, ?_⟩
        · rw [← h3]; congr 1; omega
        · rw [← h4]; congr 2; omega

section
variable {ops : Array Oper} {A : List Nat}

/-- Whatever holds of what is ahead of each of its own, and of what an operation waits for, holds of all that is ahead of that. -/
theorem mask_closed (hA : masks ops.toList [] = some A) {L : Nat → Prop} (hL : ∀ k o, ops[k]? = some o → L k → ∀ d ∈ depsOf o, L d) :
    ∀ (i : Nat) {o : Oper} {m : Nat}, ops[i]? = some o → A[i]? = some m → (∀ d ∈ depsOf o, L d) → ∀ x, m.testBit x = true → L x := by
  intro i
  induction i using Nat.strongRecOn with
  | _ i ih =>
    intro o m ho hm hd x hx
    obtain ⟨_, hspec⟩ := masks_spec hA
    obtain ⟨m', h1, h2⟩ := hspec i o (by simpa using ho)
    rw [List.length_nil, Nat.zero_add] at h1 h2
    rw [hm] at h1; cases h1
    obtain ⟨d, hdl, md, hmd, hxd⟩ := orMasks_bit h2 x hx
    have hlt : d < i := by
      have := (List.getElem?_eq_some_iff.1 hmd).1
      rw [List.length_take] at this; omega
    rw [List.getElem?_take_of_lt hlt] at hmd
    rcases hxd with hxd | rfl
    · have hod : ∃ od, ops[d]? = some od := by
        have : d < ops.size := by have := (Array.getElem?_eq_some_iff.1 ho).1; omega
        exact ⟨ops[d], Array.getElem?_eq_getElem this⟩
      obtain ⟨od, hod⟩ := hod
      exact ih d hlt hod hmd (hL d od hod (hd d hdl)) x hxd
    · exact hd x hdl

theorem bit_closed (hA : masks ops.toList [] = some A) {L : Nat → Prop} (hL : ∀ k o, ops[k]? = some o → L k → ∀ d ∈ depsOf o, L d) {i : Nat} {o : Oper} (ho : ops[i]? = some o)
    (hd : ∀ d ∈ depsOf o, L d) {x : Nat} (hx : bitAt A i x = true) : L x := by
  unfold bitAt at hx
  cases hm : nth i A with
  | none => simp only [hm] at hx; cases hx
  | some m =>
    simp only [hm] at hx
    rw [nth_eq] at hm
    exact mask_closed hA hL i ho hm hd x hx

theorem looksN_eq {o : Oper} (x : Tmp) : (Operand.tmp x ∈ o.op.operands → x ∈ looksN ops.toList o) := by
  intro h
  unfold looksN
  exact List.mem_append_left _ (List.mem_filterMap.2 ⟨.tmp x, by simpa using h, rfl⟩)
theorem looksN_guard {o : Oper} {j : Nat} {want : Bool} (hg : o.guard = some (j, want)) {g : Oper} (hj : ops[j]? = some g) {d : Tmp} (hd : g.dst = some d) : d ∈ looksN ops.toList o := by
  unfold looksN
  refine List.mem_append_right _ ?_
  have : nth j ops.toList = some g := by rw [nth_eq]; simpa using hj
  simp [hg, this, hd]

theorem pairsK_spec {i : Nat} {li : List Nat} {di : Option Tmp} : ∀ {l : List Oper} {k : Nat}, pairsK A i li di l k = true → ∀ (j : Nat) (o : Oper), l[j]? = some o → pairOk A i li di (k + j) o.dst = true
  | [], _, _, j, o, hj => by simp at hj
  | x :: l, k, h, j, o, hj => by
    obtain ⟨h1, h2⟩ := ifb_and h
    cases j with
    | zero => simp at hj; subst hj; exact h1
    | succ j =>
      have := pairsK_spec h2 j o (by simpa using hj)
      rw [show k + (j + 1) = Nat.succ k + j by omega]; exact this
theorem pairsI_spec {all : List Oper} : ∀ {l : List Oper} {i : Nat}, pairsI A all l i = true → ∀ (j : Nat) (o : Oper), l[j]? = some o → pairsK A (i + j) (looksN all o) o.dst all 0 = true
  | [], _, _, j, o, hj => by simp at hj
  | x :: l, i, h, j, o, hj => by
    obtain ⟨h1, h2⟩ := ifb_and h
    cases j with
    | zero => simp at hj; subst hj; exact h1
    | succ j =>
      have := pairsI_spec h2 j o (by simpa using hj)
      rw [show i + (j + 1) = Nat.succ i + j by omega]; exact this

/-- Of two operations one is ahead of the other, if one's slot is the other's. -/
theorem pairs_spec (h : pairsI A ops.toList ops.toList 0 = true) {i k : Nat} {oi ok : Oper} (hi : ops[i]? = some oi) (hk : ops[k]? = some ok) (hne : i ≠ k) {d : Tmp} (hd : ok.dst = some d)
    (hl : d ∈ looksN ops.toList oi ∨ oi.dst = some d) : bitAt A i k = true ∨ bitAt A k i = true := by
  have h1 := pairsI_spec h i oi (by simpa using hi)
  have h2 := pairsK_spec h1 k ok (by simpa using hk)
  rw [Nat.zero_add, Nat.zero_add] at h2
  unfold pairOk at h2
  simp only [hd] at h2
  have h2 : ifb (Nat.beq i k) true (ifb (bitAt A i k) true (bitAt A k i)) = true := by
    rcases hl with hl | hl
    · rw [(has_iff d _).2 hl] at h2; exact h2
    · simp only [hl] at h2
      have hdd : Nat.beq d d = true := by rw [beq_iff]; simp
      rw [hdd] at h2
      cases hh : has d (looksN ops.toList oi) <;> rw [hh] at h2 <;> exact h2
  have hb : Nat.beq i k = false := by rw [beq_iff]; simpa using hne
  rw [hb] at h2
  cases hx : bitAt A i k with
  | true => exact .inl rfl
  | false => rw [hx] at h2; exact .inr h2

theorem sameX_eq {x y : Cell} (h : sameX x y = true) : x = y := by
  cases x <;> cases y <;> simp only [sameX] at h <;> try (cases h; done)
  · obtain ⟨h1, h2⟩ := ifb_and h
    rw [eqK_eq] at h1; rw [eqI_eq] at h2
    simp only [beq_iff_eq] at h2
    subst h1 h2; rfl
  · obtain ⟨h1, h2⟩ := ifb_and h
    rw [beq_iff] at h1 h2
    simp only [decide_eq_true_eq] at h1 h2
    subst h1 h2; rfl
  · rename_i a b; cases a <;> cases b <;> simp [ifb] at h <;> rfl
  · rw [eqNats_eq] at h; simp only [beq_iff_eq] at h; subst h; rfl
  · rename_i a b
    cases a <;> cases b <;> simp only [sameO] at h <;> first | rfl | (cases h; done) | skip
    · obtain ⟨h1, h⟩ := ifb_and h
      obtain ⟨h2, h⟩ := ifb_and h
      obtain ⟨h3, h⟩ := ifb_and h
      obtain ⟨h4, h5⟩ := ifb_and h
      rw [beq_iff] at h1 h2 h3 h4 h5
      simp only [decide_eq_true_eq] at h1 h2 h3 h4 h5
      subst h1 h2 h3 h4 h5; rfl
    · rw [beq_iff] at h; simp only [decide_eq_true_eq] at h; subst h; rfl
    · obtain ⟨h1, h2⟩ := ifb_and h
      rw [beq_iff] at h1 h2
      simp only [decide_eq_true_eq] at h1 h2
      subst h1 h2; rfl
    · obtain ⟨h1, h2⟩ := ifb_and h
      obtain ⟨h3, h4⟩ := ifb_and h2
      rw [eqK_eq] at h1
      rw [eqI_eq] at h3
      simp only [beq_iff_eq] at h3
      subst h1 h3
      rw [sameLin_eq h4]
    · rw [beq_iff] at h; simp only [decide_eq_true_eq] at h; subst h; rfl
    · obtain ⟨h1, h2⟩ := ifb_and h
      obtain ⟨h3, h4⟩ := ifb_and h2
      rw [beq_iff] at h1
      simp only [decide_eq_true_eq] at h1
      rw [eqI_eq] at h3
      simp only [beq_iff_eq] at h3
      subst h1 h3
      rw [sameLin_eq h4]
    · obtain ⟨h1, h2⟩ := ifb_and h
      rw [beq_iff] at h1 h2
      simp only [decide_eq_true_eq] at h1 h2
      subst h1 h2; rfl
theorem sameXs_eq : ∀ {l m : List Cell}, sameXs l m = true → l = m
  | [], [], _ => rfl
  | x :: l, y :: m, h => by obtain ⟨h1, h2⟩ := ifb_and h; rw [sameX_eq h1, sameXs_eq h2]
  | [], _ :: _, h => by cases h
  | _ :: _, [], h => by cases h
theorem sameTs_eq : ∀ {l m : List TV}, sameTs l m = true → l = m
  | [], [], _ => rfl
  | .c x :: l, .c y :: m, h => by obtain ⟨h1, h2⟩ := ifb_and h; rw [sameX_eq h1, sameTs_eq h2]
  | .a x :: l, .a y :: m, h => by obtain ⟨h1, h2⟩ := ifb_and h; rw [sameXs_eq h1, sameTs_eq h2]
  | .c _ :: _, .a _ :: _, h => by cases h
  | .a _ :: _, .c _ :: _, h => by cases h
  | [], _ :: _, h => by cases h
  | .c _ :: _, [], h => by cases h
  | .a _ :: _, [], h => by cases h
theorem sameV_eq {x y : AV} (h : sameV x y = true) : x = y := by
  cases x <;> cases y <;> simp only [sameV] at h <;> try (cases h; done)
  · rw [sameX_eq h]
  · rw [sameXs_eq h]
  · rw [sameTs_eq h]
theorem finerV_spec {F : List Fact} {ρ : Nat → Int} {str : Nat → ByteArray} (hF : ∀ f ∈ F, f.holds ρ str) {v x : AV} (h : finerV F v x = true) : Finer ρ v x := by
  unfold finerV at h
  cases hs : sameV v x with
  | true => exact .inl (sameV_eq hs)
  | false =>
    rw [hs] at h
    have h : onSome (decSb F x) (fun b => v.onB (fun c => ifb b c (!c)) false) false = true := h
    cases hd : decSb F x with
    | none => rw [hd] at h; cases h
    | some b =>
      rw [hd] at h
      have ht := decSb_told (φ := ⟨fun _ => none, fun _ => 0, ρ, str, fun _ _ => none⟩) hF hd
      have h : v.onB (fun c => ifb b c (!c)) false = true := h
      cases v with
      | a l => cases h
      | t l => cases h
      | c y =>
        cases y with
        | b c =>
          have h : ifb b c (!c) = true := h
          refine .inr ⟨c, rfl, ?_⟩
          have : b = c := by cases b <;> cases c <;> first | rfl | cases h
          rw [← this]; exact ht
        | i k n => cases h
        | p b o => cases h
        | s s => cases h
        | o x => cases h
theorem recheck_spec {m : Nat} {σ : St} {ρ : Nat → Int} {str : Nat → ByteArray} (hF : ∀ f ∈ factsOf σ, f.holds ρ str) : ∀ {l : List Pend}, recheck m σ l = true → ∀ p ∈ l, m.testBit p.i = true ∨ ∃ v, p.g σ = some v ∧ Finer ρ v p.v
  | [], _, p, hp => by cases hp
  | q :: l, h, p, hp => by
    obtain ⟨h1, h2⟩ := ifb_and h
    rcases List.mem_cons.1 hp with rfl | hp
    · cases hb : m.testBit p.i with
      | true => exact .inl rfl
      | false =>
        rw [hb] at h1
        have h1 : onSome (p.g σ) (fun v => finerV (factsOf σ) v p.v) false = true := h1
        cases hg : p.g σ with
        | none => rw [hg] at h1; cases h1
        | some v => rw [hg] at h1; exact .inr ⟨v, rfl, finerV_spec hF h1⟩
    · exact recheck_spec hF h2 p hp

/-! ### what lies in a slot -/
def valAt (t0 : T) (dst : Nat → Option Tmp) (l : List (Nat × AV)) (d : Nat) : AV := l.foldl (fun v e => if dst e.1 = some d then e.2 else v) ((getT d).run t0)
theorem foldl_other {dst : Nat → Option Tmp} {d : Nat} : ∀ {l : List (Nat × AV)} (v : AV), (∀ e ∈ l, dst e.1 ≠ some d) → l.foldl (fun v e => if dst e.1 = some d then e.2 else v) v = v
  | [], v, _ => rfl
  | e :: l, v, h => by rw [List.foldl_cons, if_neg (h e (by simp))]; exact foldl_other v fun x hx => h x (by simp [hx])
theorem foldl_filter {dst : Nat → Option Tmp} {d : Nat} {q : Nat × AV → Bool} : ∀ {l : List (Nat × AV)} (v : AV), (∀ e ∈ l, dst e.1 = some d → q e = true) →
    (l.filter q).foldl (fun v e => if dst e.1 = some d then e.2 else v) v = l.foldl (fun v e => if dst e.1 = some d then e.2 else v) v
  | [], v, _ => rfl
  | e :: l, v, h => by
    have ih := fun v => foldl_filter (q := q) (l := l) v fun x hx => h x (by simp [hx])
    by_cases hd : dst e.1 = some d
    · rw [List.filter_cons_of_pos (h e (by simp) hd), List.foldl_cons, List.foldl_cons, ih]
    · rw [List.foldl_cons, if_neg hd]
      cases hq : q e with
      | true => rw [List.filter_cons_of_pos hq, List.foldl_cons, if_neg hd, ih]
      | false => rw [List.filter_cons_of_neg (by simp [hq]), ih]
theorem valAt_append {t0 : T} {dst : Nat → Option Tmp} {X Y : List (Nat × AV)} {d : Nat} (h : ∀ e ∈ Y, dst e.1 ≠ some d) : valAt t0 dst (X ++ Y) d = valAt t0 dst X d := by
  unfold valAt; rw [List.foldl_append]; exact foldl_other _ h
theorem valAt_last {t0 : T} {dst : Nat → Option Tmp} {X Y : List (Nat × AV)} {e : Nat × AV} {d : Nat} (hd : dst e.1 = some d) (h : ∀ e ∈ Y, dst e.1 ≠ some d) : valAt t0 dst (X ++ e :: Y) d = e.2 := by
  unfold valAt; rw [List.foldl_append, List.foldl_cons, if_pos hd]; exact foldl_other _ h
theorem valAt_filter {t0 : T} {dst : Nat → Option Tmp} {X : List (Nat × AV)} {q : Nat × AV → Bool} {d : Nat} (h : ∀ e ∈ X, dst e.1 = some d → q e = true) : valAt t0 dst (X.filter q) d = valAt t0 dst X d :=
  foldl_filter _ h
end
end Go.Ev
