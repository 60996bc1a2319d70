/-
  Loops over maps: rows whose values are told in whatever order; the head told anew.
-/
import Derived.Test.YtjjnhpoemcihgaaGreatEvxd
namespace Go.Ev

theorem pvs_get {q : Nat} : ∀ {n j i : Nat}, i < n → (pvs q j n)[i]? = some (.o (.pv q (j + i)))
  | 0, _, i, h => absurd h (Nat.not_lt_zero i)
  | n + 1, j, 0, _ => rfl
  | n + 1, j, i + 1, h => by
    show (pvs q (Nat.succ j) n)[i]? = _
    rw [pvs_get (by omega), show Nat.succ j + i = j + (i + 1) from by show j + 1 + i = _; omega]
theorem pvs_length {q : Nat} : ∀ {n j : Nat}, (pvs q j n).length = n
  | 0, _ => rfl
  | n + 1, j => by show (pvs q (Nat.succ j) n).length + 1 = _; rw [pvs_length]
theorem isPvs_get {q : Nat} : ∀ {l : List Cell} {j i : Nat}, isPvs q j l = true → i < l.length → l[i]? = some (.o (.pv q (j + i)))
  | [], _, i, _, h => absurd h (Nat.not_lt_zero i)
  | x :: l, j, i, h, hi => by
    obtain ⟨h1, h2⟩ := ifb_and h
    cases i with
    | zero => rw [sameX_eq h1]; rfl
    | succ i =>
      show l[i]? = _
      rw [isPvs_get h2 (by simpa using hi), show Nat.succ j + i = j + (i + 1) from by show j + 1 + i = _; omega]
theorem chunk_flatten {s : Nat} : ∀ {n : Nat} {l : List Cell} {gs : List (List Cell)}, chunk s n l = some gs → gs.flatten = l
  | 0, [], gs, h => by cases h; rfl
  | 0, _ :: _, gs, h => by cases h
  | n + 1, l, gs, h => by
    obtain ⟨g, hg, h1⟩ := onSome_eq (show onSome (takeN s l) (fun g => onSome (chunk s n (dropN s l)) (fun r => some (g :: r)) none) none = some gs from by cases l <;> exact h)
    obtain ⟨r, hr, h2⟩ := onSome_eq h1
    cases h2
    rw [List.flatten_cons, chunk_flatten hr, (takeN_some hg).1, dropN_eq, List.take_append_drop]
theorem allLen_flatten {s : Nat} : ∀ {gs : List (List Cell)}, allLen s gs = true → gs.flatten.length = gs.length * s
  | [], _ => by simp
  | g :: gs, h => by
    obtain ⟨h1, h2⟩ := ifb_and h
    rw [beq_iff] at h1
    have h1 := of_decide_eq_true h1
    rw [List.flatten_cons, List.length_append, allLen_flatten h2, h1, List.length_cons, Nat.add_mul]; omega
theorem insG_perm (g : List Cell) : ∀ l : List (List Cell), (insG g l).Perm (g :: l)
  | [] => .refl _
  | h :: l => by
    unfold insG
    cases ltG g h with
    | true => exact .refl _
    | false => exact (List.Perm.cons h (insG_perm g l)).trans (.swap g h l)
theorem sortG_perm : ∀ l : List (List Cell), (sortG l).Perm l
  | [] => .refl _
  | g :: l => (insG_perm g (sortG l)).trans ((sortG_perm l).cons g)
theorem setN_get {α : Type} {x : α} : ∀ {l : List α} {i k : Nat}, (setN i x l)[k]? = if k = i then (if i < l.length then some x else none) else l[k]?
  | [], i, k => by cases i <;> simp [setN]
  | a :: l, 0, k => by cases k <;> simp [setN]
  | a :: l, i + 1, 0 => by simp [setN]
  | a :: l, i + 1, k + 1 => by simp only [setN, List.getElem?_cons_succ, setN_get, List.length_cons]; by_cases h : k = i <;> simp [h]
theorem setN_length {α : Type} {x : α} : ∀ {l : List α} {i : Nat}, (setN i x l).length = l.length
  | [], i => by cases i <;> rfl
  | a :: l, 0 => rfl
  | a :: l, i + 1 => by simp [setN, setN_length]
theorem layNew_some : ∀ {l : List ABlk} {h : Hp} {n : Nat}, (l = [] ∨ n + l.length ≤ 13824) → ∃ r, layNew l h n = some r
  | [], h, n, _ => ⟨_, rfl⟩
  | x :: l, h, n, hl => by
    have hl : n + (l.length + 1) ≤ 13824 := by rcases hl with hl | hl; cases hl; exact hl
    have hb : Nat.blt n 13824 = true := by simp; omega
    show ∃ r, ifb (Nat.blt n 13824) (layNew l (hput h n x) (Nat.succ n)) none = some r
    rw [hb]
    exact layNew_some (by right; show n + 1 + l.length ≤ 13824; omega)
theorem layNew_room : ∀ {l : List ABlk} {h : Hp} {n : Nat} {r : Hp × Nat}, layNew l h n = some r → l = [] ∨ n + l.length ≤ 13824
  | [], h, n, r, _ => .inl rfl
  | x :: l, h, n, r, e => by
    obtain ⟨hlt, e1⟩ := ifb_eq (show ifb (Nat.blt n 13824) (layNew l (hput h n x) (Nat.succ n)) none = some r from e)
    have hlt : n < 13824 := by simpa using hlt
    rcases layNew_room e1 with rfl | h1
    · right; simp; omega
    · right; have h1 : n + 1 + l.length ≤ 13824 := h1; simp; omega

section
variable {φ ψ χ : Phi} {base : Nat} {σ τ : St} {w u : World}

/-- A row's cells, told as values in whatever order. -/
theorem bag_sound (hst : Stp base φ σ w χ τ u) {b q g o : Nat} {e : TypeId} {l : List Cell} {cur : Array Value} (hb : hget τ b = .cells e l [] false) (hχ : χ b = some (g, o)) (hg : u.heap[g]? = some (.cells cur e (0, 0)))
    (hc : CR χ l o cur) (hz : cur.size = χ.lim g) (hbm : σ.next ≤ b + 1) (hqm : σ.next ≤ q + 1) (hqb : q ≠ b) (hq : χ q = none)
    {gs hs : List (List Cell)} (hperm : gs.Perm hs) (hflat : hs.flatten.length = l.length) (hval : ∀ j c, hs.flatten[j]? = some c → ∃ v, cur[o + j]? = some v ∧ VRc χ c v)
    (hcons : ∀ j v, χ.val q j = some v → cur[o + j]? = some v) (hbound : ∀ j, l.length ≤ j → χ.val q j = none)
    {τ' : St} (hget' : ∀ c, hget τ' c = if c = b then .cells e (pvs q 0 l.length) [] false else if c = q then .perm gs else hget τ c) (hnext : τ.next ≤ τ'.next) (hqn : q + 1 < τ'.next)
    (hd : τ'.dirty = τ.dirty) : ∃ χ' : Phi, χ.le χ' ∧ Stp base φ σ w χ' τ' u ∧ (∀ c, χ' c = χ c) ∧ χ'.lim = χ.lim := by
  refine ⟨⟨χ.f, χ.lim, χ.ρ, χ.str, fun c j => if c = q then (if j < l.length then cur[o + j]? else none) else χ.val c j⟩, ?_, ?_, fun _ => rfl, rfl⟩
  · refine ⟨fun _ _ h => ⟨h, rfl⟩, rfl, rfl, fun c j v hv => ?_⟩
    show (if c = q then _ else _) = _
    by_cases hcq : c = q
    · subst hcq
      rw [if_pos rfl]
      by_cases hj : j < l.length
      · rw [if_pos hj]; exact hcons j v hv
      · rw [hbound j (by omega)] at hv; cases hv
    · rw [if_neg hcq]; exact hv
  generalize hχ' : (⟨χ.f, χ.lim, χ.ρ, χ.str, fun c j => if c = q then (if j < l.length then cur[o + j]? else none) else χ.val c j⟩ : Phi) = χ'
  have hf : ∀ c, χ' c = χ c := fun c => by rw [← hχ']
  have hlim : χ'.lim = χ.lim := by rw [← hχ']
  have hvq : ∀ j, j < l.length → χ'.val q j = cur[o + j]? := fun j hj => by rw [← hχ']; show (if q = q then _ else _) = _; rw [if_pos rfl, if_pos hj]
  have hvn : ∀ j, l.length ≤ j → χ'.val q j = none := fun j hj => by rw [← hχ']; show (if q = q then _ else _) = _; rw [if_pos rfl, if_neg (by omega)]
  have hvc : ∀ c, c ≠ q → χ'.val c = χ.val c := fun c hcq => by rw [← hχ']; funext j; show (if c = q then _ else _) = _; rw [if_neg hcq]
  have hle : χ.le χ' := by
    refine ⟨fun _ _ h => ⟨by rw [hf]; exact h, by rw [hlim]⟩, by rw [← hχ'], by rw [← hχ'], fun c j v hv => ?_⟩
    by_cases hcq : c = q
    · subst hcq
      by_cases hj : j < l.length
      · rw [hvq j hj]; exact hcons j v hv
      · rw [hbound j (by omega)] at hv; cases hv
    · rw [hvc c hcq]; exact hv
  have hbn : b + 1 < τ.next := by
    by_cases h : b + 1 < τ.next
    · exact h
    · have := hst.mr.fresh b (by omega); rw [this] at hχ; cases hχ
  have hlive : ∀ c g o, χ' c = some (g, o) → live τ' c → live τ c ∧ (hget τ' c).rel = (hget τ c).rel ∧ (hget τ' c).old = (hget τ c).old := by
    intro c g o hp hl
    have hcq : c ≠ q := by intro h; subst h; rw [hf, hq] at hp; cases hp
    unfold live at hl ⊢
    rw [hget'] at hl ⊢
    by_cases hcb : c = b
    · subst hcb; rw [if_pos rfl, hb]; exact ⟨by simp, rfl, rfl⟩
    · rw [if_neg hcb, if_neg hcq] at hl ⊢; exact ⟨hl, rfl, rfl⟩
  have hmr : MR base χ' τ' u := by
    refine ⟨fun c => ?_, fun c d k p p' hne hl hl' hp hp' => ?_, fun c hcn => by rw [hf]; exact hst.mr.fresh c (by omega), fun c k p hp => hst.mr.low c k p (by rw [← hf]; exact hp), hst.mr.bl, fun c hcn => ?_, fun c hcn => ?_⟩
    · rw [hget']
      by_cases hcb : c = b
      · subst hcb
        rw [if_pos rfl]
        intro g1 o1 hp
        rw [hf, hχ] at hp
        cases hp
        refine ⟨cur, hg, fun i x hx => ?_, by rw [hlim]; exact hz⟩
        have hi : i < l.length := by
          by_cases h : i < l.length
          · exact h
          · rw [List.getElem?_eq_none (by rw [pvs_length]; omega)] at hx; cases hx
        rw [pvs_get hi] at hx
        cases hx
        obtain ⟨v, hv, _⟩ := hc i l[i] (List.getElem?_eq_getElem hi)
        exact ⟨v, hv, by show χ'.val q (0 + i) = some v; rw [Nat.zero_add, hvq i hi]; exact hv⟩
      · rw [if_neg hcb]
        by_cases hcq : c = q
        · subst hcq
          rw [if_pos rfl]
          refine ⟨by rw [hf]; exact hq, hs, hperm, fun j x hj => ?_, fun j hj => hvn j (by omega)⟩
          obtain ⟨v, h1, h2⟩ := hval j x hj
          have hjl : j < l.length := by have := (List.getElem?_eq_some_iff.1 hj).1; omega
          exact ⟨v, by rw [hvq j hjl]; exact h1, h2.mono hle⟩
        · rw [if_neg hcq]; exact BR.mono hle (hf c) (hvc c hcq) (hst.mr.blk c)
    · obtain ⟨h1, h2, h3⟩ := hlive c k p hp hl
      obtain ⟨h4, h5, h6⟩ := hlive d k p' hp' hl'
      rw [h2, h3, h5, h6]
      exact hst.mr.apart c d k p p' hne h1 h4 (by rw [← hf]; exact hp) (by rw [← hf]; exact hp')
    · rw [hget', if_neg (by omega), if_neg (by omega)]; exact hst.mr.void c (by omega)
    · rw [hvc c (by omega)]; exact hst.mr.vals c (by omega)
  refine ⟨Phi.le_trans hst.le hle, hmr, hst.size, hst.frame, fun c k p hl hp hk => ?_, Nat.le_trans hst.next hnext, fun c hcn => by rw [hf]; exact hst.keep c hcn, fun c hcn hn hnf => ?_, by rw [hd]; exact hst.dirt, fun c hcn hcd => ?_, fun c hcn => by rw [hvc c (by omega)]; exact hst.kept c hcn, hst.os, hst.tape, hst.output, hst.drawn⟩
  · exact hst.img c k p (hlive c k p hp hl).1 (by rw [← hf]; exact hp) hk
  · rw [hget', if_neg (by omega), if_neg (by omega)]; exact hst.ghost c hcn hn hnf
  · rw [hd] at hcd
    rw [hget', if_neg (by omega), if_neg (by omega)]; exact hst.same c hcn hcd

/-- The same, of the blocks that are laid at a loop's head. -/
theorem bagAt_sound {m d : Nat} {h h1 h2 : Hp} {n1 n2 : Nat} {L L' : List ABlk} {v : TV} {x : Value} (hbag : bagAt m L v = some L') (hl1 : layNew L h (Nat.pred m) = some (h1, n1)) (hl2 : layNew L' h (Nat.pred m) = some (h2, n2))
    (hst : Stp base φ σ w χ ⟨h1, n1 + 1, d⟩ u) (hm1 : 1 ≤ m) (hm : σ.next ≤ m + 1) (hbr : ∀ b, b = m - 1 → ∀ e l, L[0]? ≠ some (.cells e l [] false)) (hbp : ∀ gs, L[0]? ≠ some (.perm gs)) (hv : VRt χ v x) :
    ∃ χ' : Phi, χ.le χ' ∧ Stp base φ σ w χ' ⟨h2, n2 + 1, d⟩ u ∧ (∀ c, χ' c = χ c) ∧ χ'.lim = χ.lim := by
  obtain ⟨e1, out1, in1⟩ := layNew_spec hl1
  obtain ⟨e2, out2, in2⟩ := layNew_spec hl2
  have hp : Nat.pred m = m - 1 := rfl
  rw [hp] at e1 e2
  unfold bagAt at hbag
  split at hbag
  · rename_i b len cap s
    have hbag : ifb (ifb (oldN m b) true (ifb (Nat.ble 2 len) (Nat.beq s 0) true)) none _ = some L' := hbag
    cases hc0 : ifb (oldN m b) true (ifb (Nat.ble 2 len) (Nat.beq s 0) true) with
    | true => rw [hc0] at hbag; cases hbag
    | false =>
      rw [hc0] at hbag
      have hold : oldN m b = false := by cases ho : oldN m b; rfl; rw [ho] at hc0; cases hc0
      rw [oldN_iff] at hold
      have hold : ¬ b + 1 < m := by simpa using hold
      obtain ⟨g, o, c, hχb, _⟩ := (show VRo χ (.slc b 0 len cap (s + 1)) x from hv)
      cases hn : nth (Nat.sub b (Nat.pred m)) L with
      | none => simp only [hn] at hbag; cases hbag
      | some blk =>
        have hLk : L[b - (m - 1)]? = some blk := by rw [← nth_eq]; exact hn
        have hbk : m - 1 + (b - (m - 1)) = b := by omega
        cases blk with
        | cells e l rel old =>
          cases rel with
          | cons _ _ => simp only [hn] at hbag; cases hbag
          | nil =>
            cases old with
            | true => simp only [hn] at hbag; cases hbag
            | false =>
              simp only [hn] at hbag
              have hb0 : b ≠ m - 1 := by
                intro hb
                rw [show b - (m - 1) = 0 by omega] at hLk
                exact hbr b hb e l hLk
              have hbt : hget (⟨h1, n1 + 1, d⟩ : St) b = .cells e l [] false := by
                rw [hget_mk, ← hbk, ← hp]; exact in1 _ _ hLk
              have hbrb := hst.mr.blk b
              rw [hbt] at hbrb
              obtain ⟨cur, hg, hc, hz⟩ := hbrb g o hχb
              obtain ⟨hlen, hbag⟩ := ifb_eq (show ifb (Nat.beq l.length (Nat.mul len s)) _ none = some L' from hbag)
              have hkb : b - (m - 1) < L.length := (List.getElem?_eq_some_iff.1 hLk).1
              split at hbag
              · -- grown from a row told so
                rename_i q tl hlq
                cases hnq : nth (Nat.sub q (Nat.pred m)) L with
                | none => simp only [hnq] at hbag; cases hbag
                | some qb =>
                  have hLq : L[q - (m - 1)]? = some qb := by rw [← nth_eq]; exact hnq
                  cases qb with
                  | perm gs =>
                    simp only [hnq] at hbag
                    cases hc1 : ifb (oldN m q) true (Nat.beq q b) with
                    | true => rw [hc1] at hbag; cases hbag
                    | false =>
                      rw [hc1] at hbag
                      have hqold : oldN m q = false := by cases ho : oldN m q; rfl; rw [ho] at hc1; cases hc1
                      rw [hqold] at hc1
                      have hqb : q ≠ b := by
                        intro e; subst e
                        have hc1 : Nat.beq q q = false := hc1
                        simp at hc1
                      rw [oldN_iff] at hqold
                      have hqold : ¬ q + 1 < m := by simpa using hqold
                      obtain ⟨had, hhad, hbag⟩ := onSome_eq (show onSome (takeN (Nat.mul gs.length s) _) _ none = some L' from hbag)
                      obtain ⟨hpa, hbag⟩ := ifb_eq hbag
                      obtain ⟨hpv, hal⟩ := ifb_and hpa
                      obtain ⟨r, hr, hbag⟩ := onSome_eq hbag
                      cases hbag
                      obtain ⟨hhad1, hhad2⟩ := takeN_some hhad
                      have hrf := chunk_flatten hr
                      rw [dropN_eq] at hrf
                      generalize hl0 : (Cell.o (.pv q 0) :: tl) = l at *
                      have hqk : m - 1 + (q - (m - 1)) = q := by omega
                      have hkq : q - (m - 1) < L.length := (List.getElem?_eq_some_iff.1 hLq).1
                      have hqt : hget (⟨h1, n1 + 1, d⟩ : St) q = .perm gs := by rw [hget_mk, ← hqk, ← hp]; exact in1 _ _ hLq
                      have hbq := hst.mr.blk q
                      rw [hqt] at hbq
                      obtain ⟨hχq, hs0, hp0, hv0, hn0⟩ := hbq
                      have hq0 : q ≠ m - 1 := by
                        intro hb
                        rw [show q - (m - 1) = 0 by omega] at hLq
                        exact hbp gs hLq
                      have hG : hs0.flatten.length = gs.length * s := by rw [← (hp0.flatten).length_eq, allLen_flatten hal]
                      have hGl : gs.length * s ≤ l.length := hhad2
                      have hval0 : ∀ j v, χ.val q j = some v → cur[o + j]? = some v := by
                        intro j v hv
                        have hj : j < gs.length * s := by
                          by_cases h : j < gs.length * s
                          · exact h
                          · rw [hn0 j (by omega)] at hv; cases hv
                        have hjl : had[j]? = some (.o (.pv q (0 + j))) := isPvs_get hpv (by rw [hhad1, List.length_take]; show j < min (gs.length * s) l.length; omega)
                        have hjl2 : l[j]? = some (.o (.pv q (0 + j))) := by
                          rw [hhad1, List.getElem?_take] at hjl
                          rw [if_pos (show j < Nat.mul gs.length s from hj)] at hjl; exact hjl
                        obtain ⟨v', h3, h4⟩ := hc j _ hjl2
                        have h4 : χ.val q (0 + j) = some v' := h4
                        rw [Nat.zero_add, hv] at h4
                        cases h4
                        exact h3
                      have hL'len : (setN (Nat.sub b (Nat.pred m)) (.cells e (pvs q 0 l.length) [] false) (setN (Nat.sub q (Nat.pred m)) (.perm (sortG (r ++ gs))) L)).length = L.length := by rw [setN_length, setN_length]
                      rw [hL'len] at e2
                      have hnn : n2 = n1 := by rw [e1, e2]
                      subst hnn
                      refine bag_sound hst (q := q) (gs := sortG (r ++ gs)) (hs := hs0 ++ r) hbt hχb hg hc hz (by omega) (by omega) hqb hχq ?_ ?_ ?_ hval0 ?_ (fun c => ?_) (Nat.le_refl _) (by show q + 1 < n2 + 1; omega) rfl
                      · exact (sortG_perm _).trans (List.perm_append_comm.trans (hp0.append_right r))
                      · rw [List.flatten_append, List.length_append, hG, hrf, List.length_drop]; show gs.length * s + (l.length - gs.length * s) = _; omega
                      · intro j y hj
                        rw [List.flatten_append] at hj
                        by_cases h : j < gs.length * s
                        · rw [List.getElem?_append_left (by rw [hG]; exact h)] at hj
                          obtain ⟨v', h3, h4⟩ := hv0 j y hj
                          exact ⟨v', hval0 j v' h3, h4⟩
                        · rw [List.getElem?_append_right (by rw [hG]; omega), hG, hrf, List.getElem?_drop] at hj
                          rw [show Nat.mul gs.length s + (j - gs.length * s) = j from by show gs.length * s + _ = _; omega] at hj
                          exact hc j y hj
                      · intro j hj; exact hn0 j (by omega)
                      · by_cases hcm : c + 1 < m
                        · rw [if_neg (by omega), if_neg (by omega), hget_mk, hget_mk, out1 c (by rw [hp]; omega), out2 c (by rw [hp]; omega)]
                        · by_cases hcl : c - (m - 1) < L.length
                          · have hck : m - 1 + (c - (m - 1)) = c := by omega
                            have h5 : (setN (Nat.sub b (Nat.pred m)) (ABlk.cells e (pvs q 0 l.length) [] false) (setN (Nat.sub q (Nat.pred m)) (ABlk.perm (sortG (r ++ gs))) L))[c - (m - 1)]? = some (if c = b then .cells e (pvs q 0 l.length) [] false else if c = q then .perm (sortG (r ++ gs)) else L[c - (m - 1)]) := by
                              rw [setN_get, setN_get, setN_length]
                              show (if c - (m - 1) = b - (m - 1) then (if b - (m - 1) < L.length then _ else _) else (if c - (m - 1) = q - (m - 1) then (if q - (m - 1) < L.length then _ else _) else _)) = _
                              by_cases h6 : c = b
                              · subst h6; rw [if_pos rfl, if_pos hkb, if_pos rfl]
                              · rw [if_neg (by omega), if_neg h6]
                                by_cases h7 : c = q
                                · subst h7; rw [if_pos rfl, if_pos hkq, if_pos rfl]
                                · rw [if_neg (by omega), if_neg h7, List.getElem?_eq_getElem hcl]
                            have h8 := in2 _ _ h5
                            rw [hp, hck] at h8
                            have h9 := in1 _ _ (List.getElem?_eq_getElem hcl)
                            rw [hp, hck] at h9
                            rw [hget_mk, h8, hget_mk, h9]
                          · rw [if_neg (by omega), if_neg (by omega), hget_mk, hget_mk, out1 c (by rw [hp]; omega), out2 c (by rw [hL'len, hp]; omega)]
                  | none => simp only [hnq] at hbag; cases hbag
                  | cells _ _ _ _ => simp only [hnq] at hbag; cases hbag
                  | map _ _ => simp only [hnq] at hbag; cases hbag
                  | iter _ _ _ _ => simp only [hnq] at hbag; cases hbag
                  | facts _ => simp only [hnq] at hbag; cases hbag
              · -- for the first time
                obtain ⟨r, hr, hbag⟩ := onSome_eq hbag
                cases hbag
                have hrf := chunk_flatten hr
                have hL'len : (setN (Nat.sub b (Nat.pred m)) (ABlk.cells e (pvs (Nat.add (Nat.pred m) L.length) 0 l.length) [] false) L ++ [ABlk.perm (sortG r)]).length = L.length + 1 := by rw [List.length_append, setN_length]; rfl
                rw [hL'len] at e2
                have hq : Nat.add (Nat.pred m) L.length = n1 := by rw [e1]; rfl
                rw [hq] at in2 out2 hl2 hL'len
                have hfr : χ n1 = none := hst.mr.fresh n1 (Nat.le_refl _)
                have hvr : χ.val n1 = fun _ => none := hst.mr.vals n1 (Nat.le_refl _)
                refine bag_sound hst (q := n1) (gs := sortG r) (hs := r) hbt hχb hg hc hz (by omega) (by omega) (by omega) hfr (sortG_perm r) (by rw [hrf]) (fun j y hj => hc j y (by rw [← hrf]; exact hj)) (fun j v hv => by rw [hvr] at hv; cases hv) (fun j _ => by rw [hvr]) (fun c => ?_) (by show n1 + 1 ≤ n2 + 1; omega) (by show n1 + 1 < n2 + 1; omega) rfl
                by_cases hcm : c + 1 < m
                · rw [if_neg (by omega), if_neg (by omega), hget_mk, hget_mk, out1 c (by rw [hp]; omega), out2 c (by rw [hp]; omega)]
                · by_cases hcl : c - (m - 1) < L.length
                  · have hck : m - 1 + (c - (m - 1)) = c := by omega
                    have h5 : (setN (Nat.sub b (Nat.pred m)) (ABlk.cells e (pvs n1 0 l.length) [] false) L ++ [ABlk.perm (sortG r)])[c - (m - 1)]? = some (if c = b then .cells e (pvs n1 0 l.length) [] false else L[c - (m - 1)]) := by
                      rw [List.getElem?_append_left (by rw [setN_length]; exact hcl), setN_get]
                      show (if c - (m - 1) = b - (m - 1) then (if b - (m - 1) < L.length then _ else _) else _) = _
                      by_cases h6 : c = b
                      · subst h6; rw [if_pos rfl, if_pos hkb, if_pos rfl]
                      · rw [if_neg (by omega), if_neg h6, List.getElem?_eq_getElem hcl]
                    have h8 := in2 _ _ h5
                    rw [hp, hck] at h8
                    have h9 := in1 _ _ (List.getElem?_eq_getElem hcl)
                    rw [hp, hck] at h9
                    rw [hget_mk, h8, hget_mk, h9]
                    by_cases h6 : c = b
                    · rw [if_pos h6, if_pos h6]
                    · rw [if_neg h6, if_neg h6, if_neg (by omega)]
                  · by_cases h7 : c = n1
                    · have h5 : (setN (Nat.sub b (Nat.pred m)) (ABlk.cells e (pvs n1 0 l.length) [] false) L ++ [ABlk.perm (sortG r)])[c - (m - 1)]? = some (ABlk.perm (sortG r)) := by
                        rw [List.getElem?_append_right (by rw [setN_length]; omega), setN_length, show c - (m - 1) - L.length = 0 by omega]; rfl
                      have h8 := in2 _ _ h5
                      rw [hp, show m - 1 + (c - (m - 1)) = c by omega] at h8
                      rw [hget_mk, h8, if_neg (by omega), if_pos h7]
                    · rw [if_neg (by omega), if_neg h7, hget_mk, hget_mk, out1 c (by rw [hp]; omega), out2 c (by rw [hL'len, hp]; omega)]
        | none => simp only [hn] at hbag; cases hbag
        | map _ _ => simp only [hn] at hbag; cases hbag
        | iter _ _ _ _ => simp only [hn] at hbag; cases hbag
        | facts _ => simp only [hn] at hbag; cases hbag
        | perm _ => simp only [hn] at hbag; cases hbag
  · cases hbag
end
end Go.Ev
