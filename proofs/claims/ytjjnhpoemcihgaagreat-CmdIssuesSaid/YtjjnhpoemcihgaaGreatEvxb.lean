/-
  Outcomes that are told alike are one: the theorem.
-/
import Derived.Test.YtjjnhpoemcihgaaGreatEvxa
namespace Go.Ev

theorem oldN_iff (m b : Nat) : oldN m b = decide (b + 1 < m) := by unfold oldN; exact blt_iff

theorem idx_some {b : Nat} : ∀ {S : List Nat} {i j : Nat}, idx b S i = some j → ∃ k, S[k]? = some b ∧ j = i + k
  | [], _, _, h => by cases h
  | c :: S, i, j, h => by
    unfold idx at h
    cases hb : Nat.beq b c with
    | true =>
      rw [hb] at h
      cases h
      rw [beq_iff] at hb
      exact ⟨0, by simp at hb; simp [hb], rfl⟩
    | false =>
      rw [hb] at h
      obtain ⟨k, h1, h2⟩ := idx_some (show idx b S (Nat.succ i) = some j from h)
      exact ⟨k + 1, by simpa using h1, by rw [h2]; simp; omega⟩

theorem anyOld_not {m : Nat} : ∀ {l : List Nat}, anyOld m l = false → ∀ b ∈ l, ¬ b + 1 < m
  | [], _, b, hb => by simp at hb
  | c :: l, h, b, hb => by
    unfold anyOld at h
    cases hc : oldN m c with
    | true => rw [hc] at h; cases h
    | false =>
      rw [hc] at h
      rcases List.mem_cons.1 hb with rfl | hb
      · rw [oldN_iff] at hc; simpa using hc
      · exact anyOld_not h b hb

/-- What is told of the blocks that are reached. -/
structure Reached (τ : St) (m : Nat) (S : List Nat) : Prop where
  nodup : S.Nodup
  new : ∀ b ∈ S, ¬ b + 1 < m
  is : ∀ b ∈ S, hget τ b ≠ .none ∧ (hget τ b).old = false ∧ anyOld m (hget τ b).rel = false

theorem reach_spec {τ : St} {m : Nat} : ∀ {n : Nat} {todo S S' : List Nat}, reach τ m n todo S = some S' → Reached τ m S → Reached τ m S'
  | 0, _, _, _, h, _ => by cases h
  | n + 1, [], S, S', h, hS => by cases h; exact hS
  | n + 1, b :: todo, S, S', h, hS => by
    unfold reach at h
    cases hc : ifb (oldN m b) true (has b S) with
    | true => rw [hc] at h; exact reach_spec (show reach τ m n todo S = some S' from h) hS
    | false =>
      rw [hc] at h
      have hold : oldN m b = false := by cases ho : oldN m b; rfl; rw [ho] at hc; cases hc
      rw [hold] at hc
      have hn : b ∉ S := by
        intro hb
        have : has b S = false := hc
        rw [has_mem] at this; simp at this; exact this hb
      rw [oldN_iff] at hold
      have hnew : ¬ b + 1 < m := by simpa using hold
      have more : (hget τ b ≠ .none ∧ (hget τ b).old = false ∧ anyOld m (hget τ b).rel = false) → Reached τ m (S ++ [b]) := by
        intro hb
        refine ⟨?_, fun c hcS => ?_, fun c hcS => ?_⟩
        · rw [List.nodup_append]
          refine ⟨hS.nodup, by simp, fun x hx y hy => ?_⟩
          simp at hy; subst hy
          intro e; subst e; exact hn hx
        · rcases List.mem_append.1 hcS with h1 | h1
          · exact hS.new c h1
          · simp at h1; subst h1; exact hnew
        · rcases List.mem_append.1 hcS with h1 | h1
          · exact hS.is c h1
          · simp at h1; subst h1; exact hb
      simp only [ifb] at h
      cases hb : hget τ b with
      | none => rw [hb] at h; cases h
      | cells e l rel old =>
        rw [hb] at h
        simp only at h
        cases old with
        | true => cases h
        | false =>
          cases ha : anyOld m rel with
          | true => rw [ha] at h; cases h
          | false => rw [ha] at h; exact reach_spec (n := n) h (more (by rw [hb]; exact ⟨by simp, rfl, ha⟩))
      | map es c => rw [hb] at h; exact reach_spec (n := n) h (more (by rw [hb]; exact ⟨by simp, rfl, rfl⟩))
      | iter mp _ _ _ =>
        rw [hb] at h
        obtain ⟨_, h⟩ := ifb_eq h
        exact reach_spec (n := n) h (more (by rw [hb]; exact ⟨by simp, rfl, rfl⟩))
      | facts _ => rw [hb] at h; cases h
      | perm gs => rw [hb] at h; exact reach_spec (n := n) h (more (by rw [hb]; exact ⟨by simp, rfl, rfl⟩))

/-- Maps under iterators that are reached were there ahead. -/
theorem reach_iter {τ : St} {m : Nat} : ∀ {n : Nat} {todo S S' : List Nat}, reach τ m n todo S = some S' → (∀ b ∈ S, ∀ mp s l t, hget τ b = .iter (some mp) s l t → mp + 1 < m) →
    ∀ b ∈ S', ∀ mp s l t, hget τ b = .iter (some mp) s l t → mp + 1 < m
  | 0, _, _, _, h, _ => by cases h
  | n + 1, [], S, S', h, hS => by cases h; exact hS
  | n + 1, b :: todo, S, S', h, hS => by
    unfold reach at h
    cases hc : ifb (oldN m b) true (has b S) with
    | true => rw [hc] at h; exact reach_iter (show reach τ m n todo S = some S' from h) hS
    | false =>
      rw [hc] at h
      have more : (∀ mp s l t, hget τ b = .iter (some mp) s l t → mp + 1 < m) → ∀ c ∈ S ++ [b], ∀ mp s l t, hget τ c = .iter (some mp) s l t → mp + 1 < m := by
        intro hb c hcS
        rcases List.mem_append.1 hcS with h1 | h1
        · exact hS c h1
        · simp at h1; subst h1; exact hb
      simp only [ifb] at h
      cases hb : hget τ b with
      | none => rw [hb] at h; cases h
      | cells e l rel old =>
        rw [hb] at h
        simp only at h
        cases old with
        | true => cases h
        | false =>
          cases ha : anyOld m rel with
          | true => rw [ha] at h; cases h
          | false => rw [ha] at h; exact reach_iter (n := n) h (more (by rw [hb]; intro _ _ _ _ e; cases e))
      | map es c => rw [hb] at h; exact reach_iter (n := n) h (more (by rw [hb]; intro _ _ _ _ e; cases e))
      | iter mp _ _ _ =>
        rw [hb] at h
        obtain ⟨h0, h⟩ := ifb_eq h
        refine reach_iter (n := n) h (more fun mp' _ _ _ e => ?_)
        rw [hb] at e
        cases e
        have h0 : oldN m mp' = true := h0
        rw [oldN_iff] at h0
        simpa using h0
      | facts _ => rw [hb] at h; cases h
      | perm gs => rw [hb] at h; exact reach_iter (n := n) h (more (by rw [hb]; intro _ _ _ _ e; cases e))

theorem renBs_spec {τ : St} {r : Nat → Option Nat} : ∀ {S : List Nat} {l : List ABlk}, renBs τ r S = some l → l.length = S.length ∧ ∀ (k b : Nat), S[k]? = some b → ∃ x, l[k]? = some x ∧ renB r (hget τ b) = some x
  | [], _, h => by cases h; exact ⟨rfl, fun k b hk => by simp at hk⟩
  | c :: S, _, h => by
    obtain ⟨x, hx, h1⟩ := onSome_eq h
    obtain ⟨l, hl, h2⟩ := onSome_eq h1
    cases h2
    obtain ⟨h3, h4⟩ := renBs_spec hl
    refine ⟨by simp [h3], fun k b hk => ?_⟩
    cases k with
    | zero => simp at hk; subst hk; exact ⟨x, rfl, hx⟩
    | succ k => simp at hk; obtain ⟨y, h5, h6⟩ := h4 k b hk; exact ⟨y, by simpa using h5, h6⟩

theorem layNew_spec : ∀ {l : List ABlk} {h h' : Hp} {n n' : Nat}, layNew l h n = some (h', n') → n' = n + l.length ∧
    (∀ b, b < n ∨ n + l.length ≤ b → (getH b).run h' = (getH b).run h) ∧ ∀ (k : Nat) (x : ABlk), l[k]? = some x → (getH (n + k)).run h' = x
  | [], h, h', n, n', e => by cases e; exact ⟨rfl, fun b _ => rfl, fun k x hk => by simp at hk⟩
  | x :: l, h, h', n, n', e => by
    obtain ⟨hlt, e1⟩ := ifb_eq (show ifb (Nat.blt n 13824) (layNew l (hput h n x) (Nat.succ n)) none = some (h', n') from e)
    have hlt : n < 13824 := by simpa using hlt
    obtain ⟨h1, h2, h3⟩ := layNew_spec e1
    have h1 : n' = n + 1 + l.length := h1
    refine ⟨by rw [List.length_cons]; omega, fun b hb => ?_, fun k y hk => ?_⟩
    · simp only [List.length_cons] at hb
      rw [h2 b (by simp; omega), getH_hput_ne (by omega)]
    · cases k with
      | zero =>
        simp at hk; subst hk
        rw [Nat.add_zero, h2 n (by simp), getH_hput_same hlt]
      | succ k =>
        simp at hk
        have := h3 k y hk
        rw [← this, show n + (k + 1) = Nat.succ n + k from by show n + (k + 1) = n + 1 + k; omega]

section
variable {φ ψ : Phi} {base : Nat} {σ τ : St} {w u : World}

/-- Where the told blocks lie. -/
def Phi.told (φ ψ : Phi) (m : Nat) (S : List Nat) : Phi := ⟨fun b => if b + 1 < m then φ b else (S[b - (m - 1)]?).bind ψ.f, ψ.lim, ψ.ρ, ψ.str, fun b => if b + 1 < m then φ.val b else match S[b - (m - 1)]? with | some c => ψ.val c | none => fun _ => none⟩

theorem told_old {m : Nat} {S : List Nat} {b : Nat} (h : b + 1 < m) : (φ.told ψ m S) b = φ b := by simp [Phi.told, h]
theorem told_new {m : Nat} {S : List Nat} {b : Nat} (h : ¬ b + 1 < m) : (φ.told ψ m S) b = (S[b - (m - 1)]?).bind ψ.f := by simp [Phi.told, h]

theorem told_vold {m : Nat} {S : List Nat} {b : Nat} (h : b + 1 < m) : (φ.told ψ m S).val b = φ.val b := by simp [Phi.told, h]
theorem told_vnew {m : Nat} {S : List Nat} {b c : Nat} (h : ¬ b + 1 < m) (hc : S[b - (m - 1)]? = some c) : (φ.told ψ m S).val b = ψ.val c := by simp [Phi.told, h, hc]
theorem told_vnone {m : Nat} {S : List Nat} {b : Nat} (h : ¬ b + 1 < m) (hc : S[b - (m - 1)]? = none) : (φ.told ψ m S).val b = fun _ => none := by simp [Phi.told, h, hc]

/-- What has been done since some moment, told anew: blocks below m stay, the others get new numbers or are forgotten. -/
theorem tell_sound {m d' : Nat} (hm : MR base φ σ w) (hst : Stp base φ ⟨σ.heap, σ.next, σ.next⟩ w ψ τ u) (hmn : m ≤ σ.next) (hd : m ≤ τ.dirty + 1) {S : List Nat} (hR : Reached τ m S)
    (hI : ∀ b ∈ S, ∀ mp s l t, hget τ b = .iter (some mp) s l t → mp + 1 < m)
    (hH : ∀ b, ¬ b + 1 < m → b + 1 < σ.next → S[b - (m - 1)]? = some b ∧ φ b ≠ none) (hSn : σ.next ≤ m + S.length) (hd1 : d' ≤ σ.dirty) (hd2 : m = σ.next ∨ d' + 1 ≤ m)
    {l : List ABlk} (hl' : renBs τ (renN m S) S = some l) {h' : Hp} {n' : Nat} (hl : layNew l σ.heap (Nat.pred m) = some (h', n')) :
    (∀ D, Ren ψ (φ.told ψ m S) (renN m S) D) ∧ Stp base φ σ w (φ.told ψ m S) ⟨h', n' + 1, d'⟩ u := by
  obtain ⟨hlen, hblk⟩ := renBs_spec hl'
  obtain ⟨hn', hout, hin⟩ := layNew_spec hl
  have hheap : ∀ b, hget (⟨σ.heap, σ.next, σ.next⟩ : St) b = hget σ b := fun b => by rw [hget_mk, hget_eq]
  have hkeep : ∀ b, b + 1 < σ.next → ψ b = φ b := fun b hb => hst.keep b hb
  have hkept : ∀ b, b + 1 < σ.next → ψ.val b = φ.val b := fun b hb => hst.kept b hb
  have hsame : ∀ b, b + 1 < m → (∀ l, hget σ b ≠ .facts l) → hget τ b = hget σ b := fun b hb hnf => by rw [← hheap]; exact hst.same b (by show b + 1 < σ.next; omega) ⟨by omega, fun l => by rw [hheap]; exact hnf l⟩
  have hplain : ∀ b g o, φ b = some (g, o) → ∀ l, hget σ b ≠ .facts l := fun b g o hp l hf => by
    have := hm.blk b
    rw [hf] at this
    rw [this.1] at hp; cases hp
  have hpred : Nat.pred m = m - 1 := rfl
  -- numbers
  have hren : ∀ b b', renN m S b = some b' → (φ.told ψ m S) b' = ψ b ∧ (φ.told ψ m S).val b' = ψ.val b := by
    intro b b' hb
    unfold renN at hb
    cases ho : oldN m b with
    | true =>
      rw [ho] at hb
      cases hb
      rw [oldN_iff] at ho
      have ho : b + 1 < m := by simpa using ho
      rw [told_old ho, told_vold ho, hkeep b (by omega), hkept b (by omega)]
      exact ⟨rfl, rfl⟩
    | false =>
      rw [ho] at hb
      obtain ⟨k, hk, he⟩ := idx_some (show idx b S (Nat.pred m) = some b' from hb)
      rw [hpred] at he
      have h1 : ¬ b' + 1 < m := by omega
      have h2 : S[b' - (m - 1)]? = some b := by rw [show b' - (m - 1) = k by omega]; exact hk
      exact ⟨by rw [told_new h1, h2]; rfl, told_vnew h1 h2⟩
  have hRen : ∀ D, Ren ψ (φ.told ψ m S) (renN m S) D := fun D => ⟨fun b b' _ hb => (hren b b' hb).1, fun _ _ _ _ _ => rfl, rfl, rfl, fun b b' j v _ hb hv => by rw [(hren b b' hb).2]; exact hv⟩
  refine ⟨hRen, ?_⟩
  have hgo : ∀ b, b + 1 < m → hget (⟨h', n' + 1, d'⟩ : St) b = hget σ b := fun b hb => by
    rw [hget_mk, hout b (by rw [hpred]; omega), hget_eq]
  have hgn : ∀ k b, S[k]? = some b → ∃ x, hget (⟨h', n' + 1, d'⟩ : St) (m - 1 + k) = x ∧ renB (renN m S) (hget τ b) = some x := fun k b hk => by
    obtain ⟨x, h5, h6⟩ := hblk k b hk
    exact ⟨x, by rw [hget_mk, ← hpred]; exact hin k x h5, h6⟩
  have hnx : n' = m - 1 + S.length := by rw [hn', hpred, hlen]
  -- a number that is none of those ahead: a block of S, or nothing
  have split : ∀ b, ¬ b + 1 < m → (∃ k c, S[k]? = some c ∧ b = m - 1 + k) ∨ ((φ.told ψ m S) b = none ∧ (φ.told ψ m S).val b = (fun _ => none) ∧ hget (⟨h', n' + 1, d'⟩ : St) b = .none) := by
    intro b hb
    cases hk : S[b - (m - 1)]? with
    | some c => exact .inl ⟨_, c, hk, by omega⟩
    | none =>
      right
      refine ⟨by rw [told_new hb, hk]; rfl, told_vnone hb hk, ?_⟩
      have := List.getElem?_eq_none_iff.1 hk
      rw [hget_mk, hout b (by rw [hpred, hlen]; omega), ← hget_eq]
      exact hm.void b (by omega)
  have htn : ∀ k c, S[k]? = some c → (φ.told ψ m S) (m - 1 + k) = ψ c := fun k c hk => by
    have : ¬ (m - 1 + k + 1 < m) := by omega
    rw [told_new this, show m - 1 + k - (m - 1) = k by omega, hk]; rfl
  have htv : ∀ k c, S[k]? = some c → (φ.told ψ m S).val (m - 1 + k) = ψ.val c := fun k c hk => by
    have : ¬ (m - 1 + k + 1 < m) := by omega
    exact told_vnew this (by rw [show m - 1 + k - (m - 1) = k by omega]; exact hk)
  have holdOf : ∀ c ∈ S, live τ c ∧ (hget τ c).old = false ∧ ∀ b ∈ (hget τ c).rel, ¬ b + 1 < m := fun c hcS =>
    ⟨(hR.is c hcS).1, (hR.is c hcS).2.1, anyOld_not (hR.is c hcS).2.2⟩
  have hme : ∀ b, ¬ b + 1 < m → b + 1 < σ.next → (φ.told ψ m S) b = φ b ∧ (φ.told ψ m S).val b = φ.val b := fun b h1 h2 => by
    obtain ⟨h3, _⟩ := hH b h1 h2
    have := htn _ b h3
    have h4 := htv _ b h3
    rw [show m - 1 + (b - (m - 1)) = b by omega] at this h4
    exact ⟨by rw [this, hkeep b h2], by rw [h4, hkept b h2]⟩
  have hmr : MR base (φ.told ψ m S) ⟨h', n' + 1, d'⟩ u := by
    refine ⟨fun b => ?_, fun b c g o o' hne hlb hlc hb hc => ?_, fun b hb => ?_, fun b g o hb => ?_, Nat.le_trans hm.bl hst.size, fun b hb => ?_, fun b hb => ?_⟩
    · by_cases hb : b + 1 < m
      · rw [hgo b hb]
        by_cases hfa : ∃ l, hget σ b = .facts l
        · obtain ⟨l, hfa⟩ := hfa
          have h0 := hm.blk b
          rw [hfa] at h0 ⊢
          exact ⟨by rw [told_old hb]; exact h0.1, fun f hf => by
            show f.holds ψ.ρ ψ.str
            rw [hst.le.ρ, hst.le.str]; exact h0.2 f hf⟩
        refine BR.kept (hm.blk b) (by rw [← hsame b hb fun l e => hfa ⟨l, e⟩]; exact hst.mr.blk b) (hkeep b (by omega)) (told_old hb) (fun c hc => ?_) rfl rfl rfl (by rw [told_vold hb, hkept b (by omega)])
        have hcl : c + 1 < σ.next := by
          by_cases h : c + 1 < σ.next
          · exact h
          · rcases hc with hc | hc
            · exact absurd (hm.fresh c (by omega)) hc
            · exact absurd (hm.vals c (by omega)) hc
        by_cases hcm : c + 1 < m
        · rw [told_old hcm, told_vold hcm, hkeep c hcl, hkept c hcl]; exact ⟨rfl, rfl⟩
        · obtain ⟨h1, h2⟩ := hme c hcm hcl
          rw [h1, h2, hkeep c hcl, hkept c hcl]; exact ⟨rfl, rfl⟩
      · rcases split b hb with ⟨k, c, hk, rfl⟩ | ⟨_, _, h6⟩
        · obtain ⟨x, h5, h6⟩ := hgn k c hk
          rw [h5]
          have hbr := hst.mr.blk c
          unfold renB at h6
          cases hx : hget τ c with
          | none => rw [hx] at h6; cases h6
          | facts _ => rw [hx] at h6; cases h6
          | iter mp s l t =>
            rw [hx] at h6 hbr
            cases h6
            intro g o hp
            rw [htn k c hk] at hp
            obtain ⟨h0, cm, cs, h1, h2, h3⟩ := hbr g o hp
            refine ⟨h0, cm, cs, h1, h2.set, ?_⟩
            cases mp with
            | none => exact h3
            | some mp =>
              obtain ⟨g', h4, h7⟩ := h3
              have hmp := hI c (List.mem_of_getElem? hk) mp s l t hx
              exact ⟨g', by rw [told_old hmp, ← hkeep mp (by omega)]; exact h4, h7⟩
          | perm gs =>
            rw [hx] at h6 hbr
            obtain ⟨gs', hgs, h7⟩ := onSome_eq h6
            cases h7
            obtain ⟨h0, hs, hp, hv, hnn⟩ := hbr
            obtain ⟨hs', h8, h9⟩ := renG_perm hp hgs
            refine ⟨by rw [htn k c hk]; exact h0, hs', h9, fun j y hy => ?_, fun j hj => by
              rw [htv k c hk]
              exact hnn j (by rw [← renCs_length (renG_flatten h8)]; exact hj)⟩
            obtain ⟨z, h10, h11, _⟩ := renCs_get (renG_flatten h8) hy
            obtain ⟨v, h12, h13⟩ := hv j z h10
            exact ⟨v, by rw [htv k c hk]; exact h12, renC_sound h11 (hRen _) h13⟩
          | cells e cs rel old =>
            rw [hx] at h6 hbr
            obtain ⟨cs', hcs, h7⟩ := onSome_eq h6
            cases h7
            intro g o hp
            rw [htn k c hk] at hp
            obtain ⟨cur, hg, hcr, hlim⟩ := hbr g o hp
            refine ⟨cur, hg, fun i y hy => ?_, hlim⟩
            obtain ⟨z, h8, h9, _⟩ := renCs_get hcs hy
            obtain ⟨v, hv, hvr⟩ := hcr i z h8
            exact ⟨v, hv, renC_sound h9 (hRen _) hvr⟩
          | map es clock =>
            rw [hx] at h6 hbr
            obtain ⟨es', hes, h7⟩ := onSome_eq h6
            cases h7
            intro g o hp
            rw [htn k c hk] at hp
            obtain ⟨h0, ces, hg, he⟩ := hbr g o hp
            exact ⟨h0, ces, hg, renE_sound hes (hRen _) he⟩
        · rw [h6]; trivial
    · by_cases h1 : b + 1 < m
      · by_cases h2 : c + 1 < m
        · rw [told_old h1] at hb
          rw [told_old h2] at hc
          unfold live at hlb hlc
          rw [hgo b h1] at hlb ⊢
          rw [hgo c h2] at hlc ⊢
          exact hm.apart b c g o o' hne hlb hlc hb hc
        · rcases split c h2 with ⟨k, d, hk, rfl⟩ | ⟨h5, _, _⟩
          · rw [htn k d hk] at hc
            rw [told_old h1, ← hkeep b (by omega)] at hb
            obtain ⟨hld, hod, hrd⟩ := holdOf d (List.mem_of_getElem? hk)
            have hlb' : live τ b := by unfold live at hlb ⊢; rw [hsame b h1 (hplain b g o (by rw [← hkeep b (by omega)]; exact hb))]; rw [hgo b h1] at hlb; exact hlb
            have hne' : b ≠ d := by intro e; subst e; exact hR.new b (List.mem_of_getElem? hk) h1
            rcases hst.mr.apart b d g o o' hne' hlb' hld hb hc with ⟨h7, _⟩ | ⟨_, h7⟩
            · exact absurd h1 (hrd b h7)
            · rw [hod] at h7; cases h7
          · rw [h5] at hc; cases hc
      · rcases split b h1 with ⟨k, d, hk, rfl⟩ | ⟨h5, _, _⟩
        · rw [htn k d hk] at hb
          obtain ⟨hld, hod, hrd⟩ := holdOf d (List.mem_of_getElem? hk)
          by_cases h2 : c + 1 < m
          · rw [told_old h2, ← hkeep c (by omega)] at hc
            have hlc' : live τ c := by unfold live at hlc ⊢; rw [hsame c h2 (hplain c g o' (by rw [← hkeep c (by omega)]; exact hc))]; rw [hgo c h2] at hlc; exact hlc
            have hne' : d ≠ c := by intro e; subst e; exact hR.new d (List.mem_of_getElem? hk) h2
            rcases hst.mr.apart d c g o o' hne' hld hlc' hb hc with ⟨_, h7⟩ | ⟨h7, _⟩
            · rw [hod] at h7; cases h7
            · exact absurd h2 (hrd c h7)
          · rcases split c h2 with ⟨j, e, hj, rfl⟩ | ⟨h5, _, _⟩
            · rw [htn j e hj] at hc
              obtain ⟨hle, hoe, _⟩ := holdOf e (List.mem_of_getElem? hj)
              have hne' : d ≠ e := by
                intro h; subst h
                apply hne
                have h1 := (List.getElem?_eq_some_iff.1 hk).1
                have := (List.getElem?_inj h1 hR.nodup).1 (hk.trans hj.symm)
                omega
              rcases hst.mr.apart d e g o o' hne' hld hle hb hc with ⟨_, h7⟩ | ⟨_, h7⟩
              · rw [hod] at h7; cases h7
              · rw [hoe] at h7; cases h7
            · rw [h5] at hc; cases hc
        · rw [h5] at hb; cases hb
    · have hb : n' + 1 ≤ b + 1 := hb
      rcases split b (by omega) with ⟨k, d, hk, rfl⟩ | ⟨h5, _, _⟩
      · have := (List.getElem?_eq_some_iff.1 hk).1
        omega
      · exact h5
    · by_cases h1 : b + 1 < m
      · rw [told_old h1] at hb
        have := hm.low b g o hb
        exact ⟨this.1, Nat.lt_of_lt_of_le this.2 hst.size⟩
      · rcases split b h1 with ⟨k, d, hk, rfl⟩ | ⟨h5, _, _⟩
        · rw [htn k d hk] at hb; exact hst.mr.low d g o hb
        · rw [h5] at hb; cases hb
    · have hb : n' + 1 ≤ b + 1 := hb
      rcases split b (by omega) with ⟨k, d, hk, rfl⟩ | ⟨_, _, h5⟩
      · have := (List.getElem?_eq_some_iff.1 hk).1
        omega
      · exact h5
    · have hb : n' + 1 ≤ b + 1 := hb
      rcases split b (by omega) with ⟨k, d, hk, rfl⟩ | ⟨_, h5, _⟩
      · have := (List.getElem?_eq_some_iff.1 hk).1
        omega
      · exact h5
  have hltn : ∀ b, φ b ≠ none → b + 1 < σ.next := fun b hb => by
    by_cases h : b + 1 < σ.next
    · exact h
    · exact absurd (hm.fresh b (by omega)) hb
  refine ⟨⟨fun b x hb => ?_, hst.le.ρ, hst.le.str, fun b j v hb => ?_⟩, hmr, hst.size, fun g hg hno => ?_, fun b g o hlb hb hg => ?_, by show σ.next ≤ n' + 1; omega, fun b hb => ?_, fun b hb hn hnf => ?_, hd1, fun b hb hbd => ?_, fun b hb => ?_, hst.os, hst.tape, hst.output, hst.drawn⟩
  · have hbl : b + 1 < σ.next := hltn b (by rw [hb]; simp)
    refine ⟨?_, (hst.le.go b x hb).2⟩
    by_cases h1 : b + 1 < m
    · rw [told_old h1]; exact hb
    · rw [(hme b h1 hbl).1]; exact hb
  · have hbl : b + 1 < σ.next := by
      by_cases h : b + 1 < σ.next
      · exact h
      · have := hm.vals b (by omega); rw [this] at hb; cases hb
    by_cases h1 : b + 1 < m
    · rw [told_vold h1]; exact hb
    · rw [(hme b h1 hbl).2]; exact hb
  · exact hst.frame g hg fun b o hl => hno b o (by unfold live at hl ⊢; rw [← hheap]; exact hl)
  · by_cases h1 : b + 1 < m
    · rw [told_old h1] at hb
      exact ⟨b, o, by unfold live at hlb ⊢; rw [hgo b h1] at hlb; exact hlb, hb⟩
    · rcases split b h1 with ⟨k, d, hk, rfl⟩ | ⟨h5, _, _⟩
      · rw [htn k d hk] at hb
        obtain ⟨hld, _, _⟩ := holdOf d (List.mem_of_getElem? hk)
        obtain ⟨c, o', h6, h7⟩ := hst.img d g o hld hb hg
        exact ⟨c, o', by unfold live at h6 ⊢; rw [← hheap]; exact h6, h7⟩
      · rw [h5] at hb; cases hb
  · by_cases h1 : b + 1 < m
    · exact told_old h1
    · exact (hme b h1 hb).1
  · by_cases h1 : b + 1 < m
    · exact .inl (hgo b h1)
    · exact absurd hn (hH b h1 hb).2
  · have hbd : b < d' := hbd.1
    rcases hd2 with h | h
    · exact hgo b (by omega)
    · exact hgo b (by omega)
  · by_cases h1 : b + 1 < m
    · exact told_vold h1
    · exact (hme b h1 hb).2

theorem canon_sound (hm : MR base φ σ w) (hst : Stp base φ ⟨σ.heap, σ.next, σ.next⟩ w ψ τ u) {v v' : AV} {x : Value} (hv : VR ψ v x) {l : List ABlk} (hc : canonA σ.next τ v = some (v', l))
    {h' : Hp} {n' : Nat} (hl : layNew l σ.heap (Nat.pred σ.next) = some (h', n')) : ∃ χ, VR χ v' x ∧ Stp base φ σ w χ ⟨h', n' + 1, σ.dirty⟩ u := by
  obtain ⟨hd, h1⟩ := ifb_eq (show ifb (Nat.ble σ.next (Nat.succ τ.dirty)) _ none = some (v', l) from hc)
  rw [ble_iff] at hd
  have hd : σ.next ≤ τ.dirty + 1 := by simpa using hd
  obtain ⟨S, hS, h2⟩ := onSome_eq h1
  obtain ⟨y, hy, h3⟩ := onSome_eq h2
  obtain ⟨l', hl', h4⟩ := onSome_eq h3
  cases h4
  have hR := reach_spec hS ⟨List.nodup_nil, fun b hb => by simp at hb, fun b hb => by simp at hb⟩
  have hI := reach_iter hS (fun b hb => by simp at hb)
  obtain ⟨hRen, hres⟩ := tell_sound hm hst (Nat.le_refl _) hd hR hI (fun b h1 h2 => absurd h2 h1) (Nat.le_add_right _ _) (Nat.le_refl _) (.inl rfl) hl' hl
  exact ⟨_, renV_sound hy (hRen _) hv, hres⟩

/-! ### told alike -/
theorem sameEs_eq : ∀ {a b : List (AV × AV × Nat)}, sameEs a b = true → a = b
  | [], [], _ => rfl
  | x :: l, y :: m, h => by
    obtain ⟨h1, h2⟩ := ifb_and h
    obtain ⟨h3, h4⟩ := ifb_and h2
    obtain ⟨h5, h6⟩ := ifb_and h4
    rw [beq_iff] at h5
    have h5 : x.2.2 = y.2.2 := by simpa using h5
    have : x = y := Prod.ext (sameV_eq h1) (Prod.ext (sameV_eq h3) h5)
    rw [this, sameEs_eq h6]
  | [], _ :: _, h => by cases h
  | _ :: _, [], h => by cases h

theorem sameXs_eq' {x y : List Cell} (h : sameXs x y = true) : x = y := by
  have := sameV_eq (x := .a x) (y := .a y) h
  cases this; rfl
theorem sameGs_eq : ∀ {a b : List (List Cell)}, sameGs a b = true → a = b
  | [], [], _ => rfl
  | x :: l, y :: m, h => by obtain ⟨h1, h2⟩ := ifb_and h; rw [sameXs_eq' h1, sameGs_eq h2]
  | [], _ :: _, h => by cases h
  | _ :: _, [], h => by cases h
theorem renB_plain {r : Nat → Option Nat} {a x : ABlk} (h : renB r a = some x) : x.rel = [] ∧ x.old = false := by
  cases a with
  | none => cases h
  | facts l => cases h
  | cells e l rel old => obtain ⟨l', _, h1⟩ := onSome_eq h; cases h1; exact ⟨rfl, rfl⟩
  | map es c => obtain ⟨l', _, h1⟩ := onSome_eq h; cases h1; exact ⟨rfl, rfl⟩
  | iter m s l t => cases h; exact ⟨rfl, rfl⟩
  | perm gs => obtain ⟨l', _, h1⟩ := onSome_eq h; cases h1; exact ⟨rfl, rfl⟩
theorem sameOpt_eq : ∀ {a b : Option Nat}, sameOpt a b = true → a = b
  | none, none, _ => rfl
  | some a, some b, h => by
    have h : Nat.beq a b = true := h
    rw [beq_iff] at h
    rw [of_decide_eq_true h]
  | none, some _, h => by cases h
  | some _, none, h => by cases h
theorem sameBlk_plain {x y : ABlk} (hx : x.rel = [] ∧ x.old = false) (hy : y.rel = [] ∧ y.old = false) (h : sameBlk x y = true) : x = y := by
  cases x <;> cases y <;> first
    | (cases h; done)
    | skip
  · obtain ⟨h3, h4⟩ := ifb_and h
    rw [beq_iff] at h3
    have h3 := of_decide_eq_true h3
    obtain ⟨h5, h6⟩ := hx
    obtain ⟨h7, h8⟩ := hy
    simp only [ABlk.rel, ABlk.old] at h5 h6 h7 h8
    rw [h3, sameXs_eq' h4, h5, h6, h7, h8]
  · obtain ⟨h3, h4⟩ := ifb_and h
    rw [beq_iff] at h3
    have h3 := of_decide_eq_true h3
    rw [h3, sameEs_eq h4]
  · obtain ⟨h3, h4⟩ := ifb_and h
    obtain ⟨h5, h6⟩ := ifb_and h4
    obtain ⟨h7, h8⟩ := ifb_and h6
    rw [beq_iff] at h5 h7
    have h5 := of_decide_eq_true h5
    have h7 := of_decide_eq_true h7
    rw [eqNats_eq] at h8
    simp only [beq_iff_eq] at h8
    rw [h5, h7, h8, sameOpt_eq h3]
  · rw [sameGs_eq h]
theorem sameBlk_eq {r s : Nat → Option Nat} {a b x y : ABlk} (ha : renB r a = some x) (hb : renB s b = some y) (h : sameBlk x y = true) : x = y := sameBlk_plain (renB_plain ha) (renB_plain hb) h
theorem sameBlks_eq {τ υ : St} {r s : Nat → Option Nat} : ∀ {S S' : List Nat} {l l' : List ABlk}, renBs τ r S = some l → renBs υ s S' = some l' → sameBlks l l' = true → l = l'
  | [], [], _, _, h1, h2, _ => by cases h1; cases h2; rfl
  | [], _ :: _, _, _, h1, h2, h => by
    obtain ⟨y, hy, h3⟩ := onSome_eq h2
    obtain ⟨m, hm, h4⟩ := onSome_eq h3
    cases h1; cases h4; cases h
  | _ :: _, [], _, _, h1, h2, h => by
    obtain ⟨y, hy, h3⟩ := onSome_eq h1
    obtain ⟨m, hm, h4⟩ := onSome_eq h3
    cases h2; cases h4; cases h
  | a :: S, b :: S', _, _, h1, h2, h => by
    obtain ⟨x, hx, h3⟩ := onSome_eq h1
    obtain ⟨l, hl, h4⟩ := onSome_eq h3
    cases h4
    obtain ⟨y, hy, h5⟩ := onSome_eq h2
    obtain ⟨m, hm, h6⟩ := onSome_eq h5
    cases h6
    obtain ⟨h7, h8⟩ := ifb_and h
    rw [sameBlk_eq hx hy h7, sameBlks_eq hl hm h8]

theorem canonA_eq {m : Nat} {τ υ : St} {v v' : AV} {c d : AV × List ABlk} (hc : canonA m τ v = some c) (hd : canonA m υ v' = some d) (h : ifb (sameV d.1 c.1) (sameBlks d.2 c.2) false = true) : d = c := by
  obtain ⟨h1, h2⟩ := ifb_and h
  obtain ⟨_, h3⟩ := ifb_eq hc
  obtain ⟨S, _, h4⟩ := onSome_eq h3
  obtain ⟨y, _, h5⟩ := onSome_eq h4
  obtain ⟨l, hl, h6⟩ := onSome_eq h5
  cases h6
  obtain ⟨_, h3⟩ := ifb_eq hd
  obtain ⟨S', _, h4⟩ := onSome_eq h3
  obtain ⟨y', _, h5⟩ := onSome_eq h4
  obtain ⟨l', hl', h6⟩ := onSome_eq h5
  cases h6
  exact Prod.ext (sameV_eq h1) (sameBlks_eq hl' hl h2)

theorem sameAll_spec {m : Nat} {c : AV × List ABlk} {τ : St} {v : AV} (hc : canonA m τ v = some c) : ∀ {l : List (AV × St)}, sameAll m c l = true → ∀ r ∈ l, canonA m r.2 r.1 = some c
  | [], _, r, hr => by simp at hr
  | q :: l, h, r, hr => by
    unfold sameAll at h
    cases hq : canonA m q.2 q.1 with
    | none => rw [hq] at h; cases h
    | some d =>
      rw [hq] at h
      obtain ⟨h1, h2⟩ := ifb_and h
      rcases List.mem_cons.1 hr with rfl | hr
      · rw [hq, canonA_eq hc hq h1]
      · exact sameAll_spec hc h2 r hr

theorem Stp.reDirty (hst : Stp base φ ⟨σ.heap, σ.next, σ.next⟩ w ψ τ u) : Stp base φ σ w ψ ⟨τ.heap, τ.next, minN σ.dirty τ.dirty⟩ u := by
  have hheap : ∀ b, hget (⟨σ.heap, σ.next, σ.next⟩ : St) b = hget σ b := fun b => by rw [hget_mk, hget_eq]
  have htau : ∀ b, hget (⟨τ.heap, τ.next, minN σ.dirty τ.dirty⟩ : St) b = hget τ b := fun b => by rw [hget_mk, hget_eq]
  have lv : ∀ b, live (⟨τ.heap, τ.next, minN σ.dirty τ.dirty⟩ : St) b ↔ live τ b := fun b => by unfold live; rw [htau]
  have lv' : ∀ b, live (⟨σ.heap, σ.next, σ.next⟩ : St) b ↔ live σ b := fun b => by unfold live; rw [hheap]
  refine ⟨hst.le, ⟨fun b => by rw [htau]; exact hst.mr.blk b, fun b c g o o' hne hb hc h1 h2 => by rw [htau, htau]; exact hst.mr.apart b c g o o' hne ((lv b).1 hb) ((lv c).1 hc) h1 h2, hst.mr.fresh, hst.mr.low, hst.mr.bl, fun b hb => by rw [htau]; exact hst.mr.void b hb, hst.mr.vals⟩,
    hst.size, fun g hg hno => hst.frame g hg fun b o hl => hno b o ((lv' b).1 hl), fun b g o hl hb hg => ?_, hst.next, hst.keep, fun b hb hn hnf => by rw [htau, ← hheap]; exact hst.ghost b hb hn (fun l => by rw [hheap]; exact hnf l), (minN_le _ _).1, fun b hb hd => by rw [htau, ← hheap]; exact hst.same b hb ⟨Nat.lt_of_lt_of_le hd.1 (minN_le _ _).2, fun l => by rw [show hget (⟨σ.heap, σ.next, σ.next⟩ : St) b = hget σ b from by rw [hget_mk, hget_eq]]; exact hd.2 l⟩, hst.kept, hst.os, hst.tape, hst.output, hst.drawn⟩
  obtain ⟨c, o', h1, h2⟩ := hst.img b g o ((lv b).1 hl) hb hg
  exact ⟨c, o', (lv' c).1 h1, h2⟩

/-- What is told of the outcomes as one holds of each. -/
theorem joinR_sound {p : AV × St → Prop} {r : R (AV × St)} (h : R.All p (joinR σ r)) :
    R.All (fun a => ∃ b, p b ∧ ∀ (base : Nat) (φ ψ : Phi) (w u : World) (x : Value), MR base φ σ w → Stp base φ ⟨σ.heap, σ.next, σ.next⟩ w ψ a.2 u → VR ψ a.1 x → ∃ χ, VR χ b.1 x ∧ Stp base φ σ w χ b.2 u) r := by
  have plain : ∀ a : AV × St, p (reDirty σ.dirty a) → ∃ b, p b ∧ ∀ (base : Nat) (φ ψ : Phi) (w u : World) (x : Value), MR base φ σ w → Stp base φ ⟨σ.heap, σ.next, σ.next⟩ w ψ a.2 u → VR ψ a.1 x → ∃ χ, VR χ b.1 x ∧ Stp base φ σ w χ b.2 u := by
    intro a ha
    obtain ⟨v, τ⟩ := a
    exact ⟨_, ha, fun base φ ψ w u x _ hst hx => ⟨ψ, hx, hst.reDirty⟩⟩
  cases r with
  | err s => exact h.elim
  | one a => exact plain a h
  | many l =>
    have h : R.All p (onSome (joinL σ l) (fun a => .one a) (.many (l.map (reDirty σ.dirty)))) := h
    cases hj : joinL σ l with
    | none =>
      rw [hj] at h
      exact fun a ha => plain a (h _ (List.mem_map.2 ⟨a, ha, rfl⟩))
    | some b =>
      rw [hj] at h
      intro a ha
      refine ⟨b, h, fun base φ ψ w u x hm hst hx => ?_⟩
      cases l with
      | nil => cases hj
      | cons r l =>
        obtain ⟨c, hc, h1⟩ := onSome_eq (show onSome (canonA σ.next r.2 r.1) _ none = some b from hj)
        obtain ⟨h2, h3⟩ := ifb_eq h1
        obtain ⟨⟨h', n'⟩, hl, h4⟩ := onSome_eq h3
        cases h4
        have hca : canonA σ.next a.2 a.1 = some c := by
          rcases List.mem_cons.1 ha with rfl | ha
          · exact hc
          · exact sameAll_spec hc h2 a ha
        exact canon_sound hm hst hx hca hl
end
end Go.Ev
