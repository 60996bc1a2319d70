/-
  Laws of the evaluator's records: what is laid in is read again.
-/
import Derived.Test.YtjjnhpoemcihgaaGreatEvb
namespace Go.Ev

theorem lt24 {p : Nat → Prop} (h0 : p 0) (h1 : p 1) (h2 : p 2) (h3 : p 3) (h4 : p 4) (h5 : p 5) (h6 : p 6) (h7 : p 7) (h8 : p 8) (h9 : p 9) (h10 : p 10) (h11 : p 11) (h12 : p 12) (h13 : p 13) (h14 : p 14) (h15 : p 15) (h16 : p 16) (h17 : p 17) (h18 : p 18) (h19 : p 19) (h20 : p 20) (h21 : p 21) (h22 : p 22) (h23 : p 23) : ∀ i, i < 24 → p i := by
  intro i hi
  match i, hi with
  | 0, _ => exact h0
  | 1, _ => exact h1
  | 2, _ => exact h2
  | 3, _ => exact h3
  | 4, _ => exact h4
  | 5, _ => exact h5
  | 6, _ => exact h6
  | 7, _ => exact h7
  | 8, _ => exact h8
  | 9, _ => exact h9
  | 10, _ => exact h10
  | 11, _ => exact h11
  | 12, _ => exact h12
  | 13, _ => exact h13
  | 14, _ => exact h14
  | 15, _ => exact h15
  | 16, _ => exact h16
  | 17, _ => exact h17
  | 18, _ => exact h18
  | 19, _ => exact h19
  | 20, _ => exact h20
  | 21, _ => exact h21
  | 22, _ => exact h22
  | 23, _ => exact h23
  | n + 24, hi => exact absurd hi (by omega)

@[simp] theorem Bx.use_eq {α β : Type} (b : Bx α) (k : α → β) : b.use k = k b.run := by cases b; rfl
@[simp] theorem ifb_true {α : Type} (t e : α) : ifb true t e = t := rfl
@[simp] theorem ifb_false {α : Type} (t e : α) : ifb false t e = e := rfl
@[simp] theorem onSome_some {α β : Type} (b : β) (k : β → α) (e : α) : onSome (some b) k e = k b := rfl
@[simp] theorem onSome_none {α β : Type} (k : β → α) (e : α) : onSome none k e = e := rfl

namespace N24
theorem sel_upd_same {β : Type} (h : β → β) (t : N24 β) : ∀ i, i < 24 → (sel i).run ((upd i).run h t) = h ((sel i).run t) := by
  cases t
  refine lt24 ?_ ?_ ?_ ?_ ?_ ?_ ?_ ?_ ?_ ?_ ?_ ?_ ?_ ?_ ?_ ?_ ?_ ?_ ?_ ?_ ?_ ?_ ?_ ?_ <;> rfl
theorem sel_upd_ne {β : Type} (h : β → β) (t : N24 β) : ∀ i, i < 24 → ∀ j, j < 24 → i ≠ j → (sel i).run ((upd j).run h t) = (sel i).run t := by
  cases t
  refine lt24 ?_ ?_ ?_ ?_ ?_ ?_ ?_ ?_ ?_ ?_ ?_ ?_ ?_ ?_ ?_ ?_ ?_ ?_ ?_ ?_ ?_ ?_ ?_ ?_ <;> refine lt24 ?_ ?_ ?_ ?_ ?_ ?_ ?_ ?_ ?_ ?_ ?_ ?_ ?_ ?_ ?_ ?_ ?_ ?_ ?_ ?_ ?_ ?_ ?_ ?_ <;> intro hne <;> first | rfl | exact absurd rfl hne
theorem sel_all {β : Type} (x : β) : ∀ i, i < 24 → (sel i).run (all x) = x := by
  refine lt24 ?_ ?_ ?_ ?_ ?_ ?_ ?_ ?_ ?_ ?_ ?_ ?_ ?_ ?_ ?_ ?_ ?_ ?_ ?_ ?_ ?_ ?_ ?_ ?_ <;> rfl
end N24

theorem getT_zero (i : Nat) : (getT i).run T.zero = .any := by
  unfold getT
  split
  · rename_i h
    have h : i < 576 := by simpa using h
    simp only [Bx.use_eq, T.zero]
    rw [N24.sel_all _ _ (show i.div 24 < 24 from by show i / 24 < 24; omega), N24.sel_all _ _ (show i.mod 24 < 24 from by show i % 24 < 24; omega)]
  · rfl

theorem getT_putT_same {i : Nat} (h : i < 576) (v : AV) (t : T) : (getT i).run ((putT i).run v t) = v := by
  have hb : Nat.blt i 576 = true := by simpa using h
  unfold getT putT
  rw [hb]
  simp only [Bx.use_eq]
  rw [N24.sel_upd_same _ _ _ (show i.div 24 < 24 from by show i / 24 < 24; omega), N24.sel_upd_same _ _ _ (show i.mod 24 < 24 from by show i % 24 < 24; omega)]

theorem getT_putT_ne {i j : Nat} (hne : i ≠ j) (v : AV) (t : T) : (getT i).run ((putT j).run v t) = (getT i).run t := by
  unfold getT putT
  cases hb : Nat.blt i 576 with
  | false => rfl
  | true =>
    cases hc : Nat.blt j 576 with
    | false => rfl
    | true =>
      have hi : i < 576 := by simpa using hb
      have hj : j < 576 := by simpa using hc
      simp only [Bx.use_eq]
      by_cases hd : i / 24 = j / 24
      · have e : i.div 24 = j.div 24 := hd
        rw [e, N24.sel_upd_same _ _ _ (show j.div 24 < 24 from by show j / 24 < 24; omega)]
        exact N24.sel_upd_ne _ _ _ (show i.mod 24 < 24 from by show i % 24 < 24; omega) _ (show j.mod 24 < 24 from by show j % 24 < 24; omega) (by show i % 24 ≠ j % 24; omega)
      · rw [N24.sel_upd_ne _ _ _ (show i.div 24 < 24 from by show i / 24 < 24; omega) _ (show j.div 24 < 24 from by show j / 24 < 24; omega) hd]

theorem getH_zero (b : Nat) : (getH b).run Hp.zero = .none := by
  unfold getH
  split
  · rename_i h
    have h : b < 13824 := by simpa using h
    simp only [Bx.use_eq, Hp.zero]
    rw [N24.sel_all _ _ (show b.div 576 < 24 from by show b / 576 < 24; omega), N24.sel_all _ _ (show (b.div 24).mod 24 < 24 from by show b / 24 % 24 < 24; omega), N24.sel_all _ _ (show b.mod 24 < 24 from by show b % 24 < 24; omega)]
  · rfl

theorem getH_putH_same {b : Nat} (h : b < 13824) (v : ABlk) (t : Hp) : (getH b).run ((putH b).run v t) = v := by
  have hb : Nat.blt b 13824 = true := by simpa using h
  unfold getH putH
  rw [hb]
  simp only [Bx.use_eq]
  rw [N24.sel_upd_same _ _ _ (show b.div 576 < 24 from by show b / 576 < 24; omega), N24.sel_upd_same _ _ _ (show (b.div 24).mod 24 < 24 from by show b / 24 % 24 < 24; omega), N24.sel_upd_same _ _ _ (show b.mod 24 < 24 from by show b % 24 < 24; omega)]

theorem getH_putH_ne {b c : Nat} (hne : b ≠ c) (v : ABlk) (t : Hp) : (getH b).run ((putH c).run v t) = (getH b).run t := by
  unfold getH putH
  cases hb : Nat.blt b 13824 with
  | false => rfl
  | true =>
    cases hc : Nat.blt c 13824 with
    | false => rfl
    | true =>
      have hi : b < 13824 := by simpa using hb
      have hj : c < 13824 := by simpa using hc
      simp only [Bx.use_eq]
      by_cases hd : b / 576 = c / 576
      · have e : b.div 576 = c.div 576 := hd
        rw [e, N24.sel_upd_same _ _ _ (show c.div 576 < 24 from by show c / 576 < 24; omega)]
        by_cases hm : b / 24 % 24 = c / 24 % 24
        · have e2 : (b.div 24).mod 24 = (c.div 24).mod 24 := hm
          rw [e2, N24.sel_upd_same _ _ _ (show (c.div 24).mod 24 < 24 from by show c / 24 % 24 < 24; omega)]
          exact N24.sel_upd_ne _ _ _ (show b.mod 24 < 24 from by show b % 24 < 24; omega) _ (show c.mod 24 < 24 from by show c % 24 < 24; omega) (by show b % 24 ≠ c % 24; omega)
        · rw [N24.sel_upd_ne _ _ _ (show (b.div 24).mod 24 < 24 from by show b / 24 % 24 < 24; omega) _ (show (c.div 24).mod 24 < 24 from by show c / 24 % 24 < 24; omega) hm]
      · rw [N24.sel_upd_ne _ _ _ (show b.div 576 < 24 from by show b / 576 < 24; omega) _ (show c.div 576 < 24 from by show c / 576 < 24; omega) hd]

/-! ### blocks -/
theorem getH_lt {b : Nat} {h : Hp} (hb : (getH b).run h ≠ .none) : b < 13824 := by
  unfold getH at hb
  split at hb
  · rename_i h; simpa using h
  · exact absurd rfl hb

@[simp] theorem hget_mk (h : Hp) (n d b : Nat) : hget ⟨h, n, d⟩ b = (getH b).run h := rfl
theorem hget_eq (σ : St) (b : Nat) : hget σ b = (getH b).run σ.heap := by cases σ; rfl
theorem minN_le (a b : Nat) : minN a b ≤ a ∧ minN a b ≤ b := by
  unfold minN
  cases h : Nat.ble a b with
  | true => have := Nat.le_of_ble_eq_true h; exact ⟨Nat.le_refl _, this⟩
  | false =>
    have : ¬ a ≤ b := fun hh => by rw [Nat.ble_eq_true_of_le hh] at h; cases h
    exact ⟨by show b ≤ a; omega, Nat.le_refl _⟩
theorem lowd_le (b : Nat) : ∀ (l : List Nat) (d : Nat), lowd b l d ≤ d ∧ lowd b l d ≤ b ∧ ∀ c ∈ l, lowd b l d ≤ c
  | [], d => ⟨(minN_le b d).2, (minN_le b d).1, fun c h => by cases h⟩
  | c :: l, d => by
    obtain ⟨h1, h2, h3⟩ := lowd_le b l (minN c d)
    refine ⟨Nat.le_trans h1 (minN_le c d).2, h2, fun x hx => ?_⟩
    rcases List.mem_cons.1 hx with rfl | hx
    · exact Nat.le_trans h1 (minN_le x d).1
    · exact h3 x hx
theorem getH_hput_same {b : Nat} (h : b < 13824) (v : ABlk) (t : Hp) : (getH b).run (hput t b v) = v := getH_putH_same h v t
theorem getH_hput_ne {b c : Nat} (hne : b ≠ c) (v : ABlk) (t : Hp) : (getH b).run (hput t c v) = (getH b).run t := getH_putH_ne hne v t

theorem getH_kill (l : List Nat) : ∀ (h : Hp) (b : Nat), (getH b).run (kill l h) = if b ∈ l then .none else (getH b).run h := by
  induction l with
  | nil => intro h b; simp [kill]
  | cons c l ih =>
    intro h b
    rw [kill, ih]
    by_cases hl : b ∈ l
    · simp [hl]
    · by_cases hc : b = c
      · subst hc
        simp only [hl, if_false, List.mem_cons, true_or, if_true]
        by_cases hb : b < 13824
        · exact getH_hput_same hb _ _
        · have : (getH b).run (hput h b .none) = .none := by
            by_cases e : (getH b).run (hput h b .none) = .none
            · exact e
            · exact absurd (getH_lt e) hb
          exact this
      · simp only [hl, if_false, List.mem_cons, hc, or_self]
        exact getH_hput_ne hc _ _

end Go.Ev
