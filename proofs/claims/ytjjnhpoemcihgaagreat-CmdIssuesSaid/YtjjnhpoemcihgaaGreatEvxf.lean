/-
  Loops over maps: the run.
-/
import Derived.Test.YtjjnhpoemcihgaaGreatEvxe
namespace Go.Ev

theorem reach_prefix {τ : St} {m : Nat} : ∀ {n : Nat} {todo S S' : List Nat}, reach τ m n todo S = some S' → ∃ T, S' = S ++ T
  | 0, _, _, _, h => by cases h
  | n + 1, [], S, S', h => by cases h; exact ⟨[], by simp⟩
  | n + 1, b :: todo, S, S', h => by
    unfold reach at h
    cases hc : ifb (oldN m b) true (has b S) with
    | true => rw [hc] at h; exact reach_prefix (show reach τ m n todo S = some S' from h)
    | false =>
      rw [hc] at h
      simp only [ifb] at h
      have more : ∀ {todo : List Nat}, reach τ m n todo (S ++ [b]) = some S' → ∃ T, S' = S ++ T := fun h => by
        obtain ⟨T, hT⟩ := reach_prefix h
        exact ⟨b :: T, by rw [hT, List.append_assoc]; rfl⟩
      cases hb : hget τ b with
      | none => rw [hb] at h; cases h
      | cells e l rel old =>
        rw [hb] at h
        simp only at h
        cases old with
        | true => cases h
        | false =>
          cases ha : anyOld m rel with
          | true => rw [ha] at h; cases h
          | false => rw [ha] at h; exact more h
      | map es c => rw [hb] at h; exact more h
      | iter mp _ _ _ => rw [hb] at h; obtain ⟨_, h⟩ := ifb_eq h; exact more h
      | facts _ => rw [hb] at h; cases h
      | perm gs => rw [hb] at h; exact more h
theorem reach_first {τ : St} {m r n : Nat} {todo S' : List Nat} (h : reach τ m n (r :: todo) [] = some S') (hr : oldN m r = false) : ∃ T, S' = r :: T := by
  cases n with
  | zero => cases h
  | succ n =>
    unfold reach at h
    rw [hr] at h
    simp only [ifb, has] at h
    have more : ∀ {todo : List Nat}, reach τ m n todo ([] ++ [r]) = some S' → ∃ T, S' = r :: T := fun h => reach_prefix h
    cases hb : hget τ r with
    | none => rw [hb] at h; cases h
    | cells e l rel old =>
      rw [hb] at h
      simp only at h
      cases old with
      | true => cases h
      | false =>
        cases ha : anyOld m rel with
        | true => rw [ha] at h; cases h
        | false => rw [ha] at h; exact more h
    | map es c => rw [hb] at h; exact more h
    | iter mp _ _ _ => rw [hb] at h; obtain ⟨_, h⟩ := ifb_eq h; exact more h
    | facts _ => rw [hb] at h; cases h
    | perm gs => rw [hb] at h; exact more h

theorem tvs_get {vs : List AV} {l : List TV} (h : tvs vs = some l) : l.length = vs.length ∧ ∀ (i : Nat) v, vs[i]? = some v → ∃ x, toTV v = some x ∧ l[i]? = some x := by
  induction vs generalizing l with
  | nil => cases h; exact ⟨rfl, fun i v hv => by simp at hv⟩
  | cons v vs ih =>
    obtain ⟨x, hx, h1⟩ := onSome_eq h
    obtain ⟨l', hl, h2⟩ := onSome_eq h1
    cases h2
    obtain ⟨h3, h4⟩ := ih hl
    refine ⟨by simp [h3], fun i v' hv => ?_⟩
    cases i with
    | zero => simp at hv; subst hv; exact ⟨x, hx, rfl⟩
    | succ i => simp at hv; obtain ⟨y, h5, h6⟩ := h4 i v' hv; exact ⟨y, h5, by simpa using h6⟩
theorem renT_sound {ψ χ : Phi} {r : Nat → Option Nat} {x x' : TV} {v : Value} (h : renT r x = some x') (hr : ∀ D, Ren ψ χ r D) (hv : VRt ψ x v) : VRt χ x' v := by
  cases x with
  | c x => obtain ⟨z, hz, h3⟩ := onSome_eq h; cases h3; exact renC_sound hz (hr _) hv
  | a x => obtain ⟨z, hz, h3⟩ := onSome_eq h; cases h3; obtain ⟨cs, h4, h5⟩ := hv; exact ⟨cs, h4, renCs_sound hz (hr _) h5⟩
theorem renTs_get {r : Nat → Option Nat} : ∀ {l l' : List TV}, renTs r l = some l' → ∀ (i : Nat) x, l[i]? = some x → ∃ x', renT r x = some x' ∧ l'[i]? = some x'
  | [], _, h, i, x, hx => by simp at hx
  | y :: l, l', h, i, x, hx => by
    obtain ⟨y', hy, h1⟩ := onSome_eq h
    obtain ⟨m, hm, h2⟩ := onSome_eq h1
    cases h2
    cases i with
    | zero => simp at hx; subst hx; exact ⟨y', hy, rfl⟩
    | succ i => simp at hx; obtain ⟨z, h3, h4⟩ := renTs_get hm i x hx; exact ⟨z, h3, by simpa using h4⟩
theorem renTs_length {r : Nat → Option Nat} : ∀ {l l' : List TV}, renTs r l = some l' → l'.length = l.length
  | [], _, h => by cases h; rfl
  | y :: l, l', h => by
    obtain ⟨y', hy, h1⟩ := onSome_eq h
    obtain ⟨m, hm, h2⟩ := onSome_eq h1
    cases h2
    simp [renTs_length hm]
theorem getsB_run (t : T) : ∀ l : List Nat, (getsB l).run t = l.map fun d => (getT d).run t
  | [] => rfl
  | d :: l => by
    unfold getsB
    simp only [Bx.use_eq, List.map_cons]
    rw [getsB_run t l]

theorem ifbNo {α : Type} {c : Bool} {x : Option α} {r : α} (h : ifb c none x = some r) : c = false ∧ x = some r := by
  cases c with
  | true => cases h
  | false => exact ⟨rfl, h⟩
theorem bagAt_length {m : Nat} {L L2 : List ABlk} {v : TV} (hb : bagAt m L v = some L2) : L.length ≤ L2.length := by
  unfold bagAt at hb
  split at hb
  · obtain ⟨_, hb⟩ := ifbNo hb
    split at hb
    · obtain ⟨_, hb⟩ := ifb_eq hb
      split at hb
      · split at hb
        · obtain ⟨_, hb⟩ := ifbNo hb
          obtain ⟨had, _, hb⟩ := onSome_eq hb
          obtain ⟨_, hb⟩ := ifb_eq hb
          obtain ⟨r', _, hb⟩ := onSome_eq hb
          cases hb
          rw [setN_length, setN_length]; exact Nat.le_refl _
        · cases hb
      · obtain ⟨r', _, hb⟩ := onSome_eq hb
        cases hb
        rw [List.length_append, setN_length]; simp
    · cases hb
  · cases hb
theorem bagK_length {m : Nat} {L : List ABlk} : ∀ vs : List TV, L.length ≤ (bagK m L vs).length
  | [] => Nat.le_refl _
  | v :: vs => by
    show _ ≤ (onSome (bagAt m L v) (fun L => L) (bagK m L vs)).length
    cases hb : bagAt m L v with
    | none => exact bagK_length vs
    | some L2 => exact bagAt_length hb

section
variable {φ ψ χ : Phi} {base : Nat} {σ τ : St} {w u : World}

/-- What is killed is unknown. -/
theorem killB_run {tmps : Array Value} : ∀ {l : List Nat} {t : T} {d : Nat}, VR χ ((getT d).run t) (tmps.getD d undef) ∨ d ∈ l → VR χ ((getT d).run ((killB l).run t)) (tmps.getD d undef)
  | [], t, d, h => by
    unfold killB
    rcases h with h | h
    · exact h
    · cases h
  | e :: l, t, d, h => by
    unfold killB
    simp only [Bx.use_eq]
    by_cases hde : d = e
    · subst hde
      refine killB_run (.inl ?_)
      by_cases hlt : d < 576
      · rw [getT_putT_same hlt]; exact VR.any χ _
      · have hb : Nat.blt d 576 = false := blt_false hlt
        have : (getT d) = ⟨fun _ => .any⟩ := by unfold getT; rw [hb]
        rw [this]; exact VR.any χ _
    · refine killB_run ?_
      rw [getT_putT_ne hde]
      rcases h with h | h
      · exact .inl h
      · rcases List.mem_cons.1 h with h | h
        · exact absurd h hde
        · exact .inr h
theorem putsB_run {tmps : Array Value} : ∀ {l : List Nat} {vs : List TV} {t : T} {d : Nat}, (∀ (i : Nat) e, l[i]? = some e → ∃ v, vs[i]? = some v ∧ VR χ (ofTV v) (tmps.getD e undef)) → (VR χ ((getT d).run t) (tmps.getD d undef) ∨ d ∈ l) → VR χ ((getT d).run ((putsB l).run vs t)) (tmps.getD d undef)
  | [], vs, t, d, _, h => by
    unfold putsB
    rcases h with h | h
    · exact h
    · cases h
  | e :: l, vs, t, d, hv, h => by
    unfold putsB
    simp only [Bx.use_eq]
    obtain ⟨v, hv0, hr⟩ := hv 0 e rfl
    cases vs with
    | nil => cases hv0
    | cons v' vs =>
      simp at hv0
      subst hv0
      simp only
      refine putsB_run (fun i e' he => by obtain ⟨v'', h1, h2⟩ := hv (i + 1) e' (by simpa using he); exact ⟨v'', by simpa using h1, h2⟩) ?_
      by_cases hde : d = e
      · subst hde
        left
        by_cases hlt : d < 576
        · rw [getT_putT_same hlt]; exact hr
        · have hb : Nat.blt d 576 = false := blt_false hlt
          have : (getT d) = ⟨fun _ => .any⟩ := by unfold getT; rw [hb]
          rw [this]; exact VR.any χ _
      · rw [getT_putT_ne hde]
        rcases h with h | h
        · exact .inl h
        · rcases List.mem_cons.1 h with h | h
          · exact absurd h hde
          · exact .inr h

/-- The head told anew. -/
theorem head_sound {r : Nat} {h : Hp} (hm : MR base φ ⟨h, r + 2, r + 2⟩ w) (hst : Stp base φ ⟨h, r + 2, r + 2⟩ w ψ τ u) (hφr : φ r ≠ none) {cs ks ws : List Nat} (_ : ∀ d ∈ cs, d ∈ ws) (hall : ∀ d ∈ ws, d ∈ cs ∨ d ∈ ks)
    {t1 t : T} {tm1 tmps : Array Value} (ht1 : TR φ t1 tm1) (ht : TR ψ t tmps) (hstay : Stays ws t1 t) {k : Key} (htell : tellA (r + 1) (.ptr r 0) ((getsB cs).run t) τ = some k) {ts : TS} (hbuild : buildH (putsB cs).run ((killB ks).run t1) h (r + 1) k = some ts) :
    ∃ χ, Stp base φ ⟨h, r + 2, r + 2⟩ w χ ts.σ u ∧ TR χ ts.t tmps := by
  obtain ⟨hit, h1⟩ := ifb_eq htell
  obtain ⟨vs, hvs, h2⟩ := onSome_eq h1
  obtain ⟨c, hc, h3⟩ := onSome_eq h2
  obtain ⟨v', L⟩ := c
  have h3 : v'.onT (fun vs => some (vs, bagK (r + 1) L vs)) none = some k := h3
  cases v' with
  | c x => cases h3
  | a l => cases h3
  | t vs' =>
  cases h3
  obtain ⟨hd, h4⟩ := ifb_eq (show ifb (Nat.ble (r + 1) (Nat.succ τ.dirty)) _ none = some (AV.t vs', L) from hc)
  rw [ble_iff] at hd
  have hd : r + 1 ≤ τ.dirty + 1 := by simpa using hd
  obtain ⟨S, hS, h5⟩ := onSome_eq h4
  obtain ⟨y, hy, h6⟩ := onSome_eq h5
  obtain ⟨L', hL', h7⟩ := onSome_eq h6
  cases h7
  obtain ⟨vs2, hren, h8⟩ := onSome_eq (show onSome (renTs (renN (r + 1) S) vs) (fun l => some (AV.t l)) none = some (AV.t vs') from hy)
  cases h8
  -- the iterator comes first
  obtain ⟨hvlen, hvget⟩ := tvs_get hvs
  have hfirst : ∃ rest, refsV (.t vs) = r :: rest := by
    obtain ⟨x, hx, hx0⟩ := hvget 0 (.ptr r 0) rfl
    cases hx
    cases vs with
    | nil => cases hx0
    | cons a rest => simp at hx0; subst hx0; exact ⟨_, rfl⟩
  obtain ⟨rest, hrest⟩ := hfirst
  rw [hrest] at hS
  have hro : oldN (r + 1) r = false := by rw [oldN_iff]; simp
  obtain ⟨Tl, hTl⟩ := reach_first hS hro
  have hR := reach_spec hS ⟨List.nodup_nil, fun b hb => by simp at hb, fun b hb => by simp at hb⟩
  have hI := reach_iter hS (fun b hb => by simp at hb)
  obtain ⟨⟨h2', n2⟩, hlay, h9⟩ := onSome_eq hbuild
  cases h9
  have hlay : layNew (bagK (r + 1) L vs') h (Nat.pred (r + 1)) = some (h2', n2) := hlay
  obtain ⟨hLlen, hLget⟩ := renBs_spec hL'
  have hSlen : 1 ≤ S.length := by rw [hTl]; simp
  -- laid without what is told of rows
  have hlay0 : ∃ h1' n1, layNew L h (Nat.pred (r + 1)) = some (h1', n1) := by
    have hle : L.length ≤ (bagK (r + 1) L vs').length := bagK_length vs'
    obtain ⟨⟨h1', n1⟩, hh⟩ := layNew_some (l := L) (n := Nat.pred (r + 1)) (by
      rcases layNew_room hlay with h0 | h0
      · left
        rw [h0] at hle
        simp at hle; exact hle
      · right; omega)
    exact ⟨h1', n1, hh⟩
  obtain ⟨h1', n1, hlay0⟩ := hlay0
  obtain ⟨hRen, hst0⟩ := tell_sound (m := r + 1) (d' := r) hm hst (by show r + 1 ≤ r + 2; omega) hd hR hI (fun b hb1 hb2 => by
    have hb2 : b + 1 < r + 2 := hb2
    have : b = r := by omega
    subst this
    refine ⟨?_, hφr⟩
    rw [hTl, show b - (b + 1 - 1) = 0 by omega]; rfl) (by show r + 2 ≤ r + 1 + S.length; omega) (by show r ≤ r + 2; omega) (.inr (by omega)) hL' hlay0
  -- values that are handed on
  have hvals : ∀ (i : Nat) d, cs[i]? = some d → ∃ x, vs'[i + 1]? = some x ∧ VRt (φ.told ψ (r + 1) S) x (tmps.getD d undef) := by
    intro i d hd
    have hgi : ((AV.ptr r 0) :: (getsB cs).run t)[i + 1]? = some ((getT d).run t) := by rw [getsB_run]; simp [hd]
    obtain ⟨x, hx, hx'⟩ := hvget (i + 1) _ hgi
    obtain ⟨x', h10, h11⟩ := renTs_get hren (i + 1) x hx'
    exact ⟨x', h11, renT_sound h10 hRen (VRt_toTV hx (ht d))⟩
  have hptr : ∀ x, vs'[0]? = some x → ∃ b, x = .c (.p b 0) := by
    intro x hx
    obtain ⟨y0, hy0, hy1⟩ := hvget 0 (.ptr r 0) rfl
    cases hy0
    obtain ⟨x', h10, h11⟩ := renTs_get hren 0 _ hy1
    rw [hx] at h11
    cases h11
    obtain ⟨z, hz, h12⟩ := onSome_eq h10
    cases h12
    obtain ⟨b', _, h13⟩ := onSome_eq hz
    cases h13
    exact ⟨b', rfl⟩
  have hit0 : ∃ mp s l tt, hget τ r = .iter mp s l tt := by
    have hit : (hget τ r).onIter (fun _ _ _ _ => true) false = true := hit
    cases hb : hget τ r with
    | iter mp s l tt => exact ⟨mp, s, l, tt, rfl⟩
    | _ => rw [hb] at hit; cases hit
  have hL0 : ∃ mp s l tt, L[0]? = some (.iter mp s l tt) := by
    obtain ⟨mp, s, l, tt, hb⟩ := hit0
    obtain ⟨x, h10, h11⟩ := hLget 0 r (by rw [hTl]; rfl)
    rw [hb] at h11
    cases h11
    exact ⟨_, _, _, _, h10⟩
  obtain ⟨χ, hle, hstχ, hsame, hlimχ⟩ : ∃ χ : Phi, (φ.told ψ (r + 1) S).le χ ∧ Stp base φ ⟨h, r + 2, r + 2⟩ w χ ⟨h2', n2 + 1, r⟩ u ∧ (∀ c, χ c = (φ.told ψ (r + 1) S) c) ∧ χ.lim = (φ.told ψ (r + 1) S).lim := by
    have plain : bagK (r + 1) L vs' = L → ∃ χ : Phi, (φ.told ψ (r + 1) S).le χ ∧ Stp base φ ⟨h, r + 2, r + 2⟩ w χ ⟨h2', n2 + 1, r⟩ u ∧ (∀ c, χ c = (φ.told ψ (r + 1) S) c) ∧ χ.lim = (φ.told ψ (r + 1) S).lim := by
      intro hb
      rw [hb, hlay0] at hlay
      cases hlay
      exact ⟨_, Phi.le_refl _, hst0, fun _ => rfl, rfl⟩
    have go : ∀ (l : List TV), (∀ x ∈ l, (∃ b, x = .c (.p b 0)) ∨ ∃ v, VRt (φ.told ψ (r + 1) S) x v) → bagK (r + 1) L l = L ∨ ∃ x ∈ l, bagAt (r + 1) L x = some (bagK (r + 1) L l) ∧ ∃ v, VRt (φ.told ψ (r + 1) S) x v := by
      intro l
      induction l with
      | nil => intro _; exact .inl rfl
      | cons x l ih =>
        intro hl
        cases hb : bagAt (r + 1) L x with
        | none =>
          have e : bagK (r + 1) L (x :: l) = bagK (r + 1) L l := by show onSome (bagAt (r + 1) L x) _ _ = _; rw [hb]; rfl
          rw [e]
          rcases ih (fun y hy => hl y (by simp [hy])) with h0 | ⟨y, hy, h0⟩
          · exact .inl h0
          · exact .inr ⟨y, by simp [hy], h0⟩
        | some L2 =>
          have e : bagK (r + 1) L (x :: l) = L2 := by show onSome (bagAt (r + 1) L x) _ _ = _; rw [hb]; rfl
          right
          refine ⟨x, by simp, by rw [e]; exact hb, ?_⟩
          rcases hl x (by simp) with ⟨b, rfl⟩ | h0
          · cases hb
          · exact h0
    rcases go vs' (fun x hx => by
      obtain ⟨i, hi⟩ := List.getElem?_of_mem hx
      cases i with
      | zero => exact .inl (hptr x hi)
      | succ i =>
        right
        have hlt : i < cs.length := by
          have h10 := (List.getElem?_eq_some_iff.1 hi).1
          have h11 := renTs_length hren
          rw [hvlen, List.length_cons, getsB_run, List.length_map] at h11
          omega
        obtain ⟨x', h12, h13⟩ := hvals i cs[i] (List.getElem?_eq_getElem hlt)
        rw [hi] at h12
        cases h12
        exact ⟨_, h13⟩) with h0 | ⟨x, hx, h0, v, hv⟩
    · exact plain h0
    · obtain ⟨mp, s, l, tt, hL0⟩ := hL0
      exact bagAt_sound h0 hlay0 hlay hst0 (by omega) (by show r + 2 ≤ r + 1 + 1; omega) (fun b _ e l => by rw [hL0]; simp) (fun gs => by rw [hL0]; simp) hv
  refine ⟨χ, hstχ, fun d => ?_⟩
  -- slots
  show VR χ ((getT d).run ((putsB cs).run (match vs' with | [] => [] | _ :: vs => vs) ((killB ks).run t1))) _
  refine putsB_run (fun i e he => ?_) ?_
  · obtain ⟨x, h10, h11⟩ := hvals i e he
    refine ⟨x, ?_, VRt_ofTV (h11.mono hle)⟩
    cases vs' with
    | nil => simp at h10
    | cons a l => simpa using h10
  · by_cases hdw : d ∈ ws
    · rcases hall d hdw with hd | hd
      · exact .inr hd
      · exact .inl (killB_run (.inr hd))
    · left
      refine killB_run (.inl ?_)
      have hψ : VR ψ ((getT d).run t1) (tmps.getD d undef) := by rw [← hstay d hdw]; exact ht d
      have hdom := refsV_dom (ht1 d)
      have hnum : ∀ b, φ.dom b → b + 1 < r + 2 := fun b hb => by
        by_cases h0 : b + 1 < r + 2
        · exact h0
        · rcases hb with hb | hb
          · exact absurd (hm.fresh b (by show r + 2 ≤ b + 1; omega)) hb
          · exact absurd (hm.vals b (by show r + 2 ≤ b + 1; omega)) hb
      refine renV_sound (renV_id _) (ψ := ψ) (χ := χ) ⟨fun b b' hb e => ?_, fun b g o hb hp => ?_, ?_, ?_, fun b b' j v hb e hv => ?_⟩ hψ
      · cases e
        have h0 := hnum b (hdom b hb)
        rw [hstχ.keep b h0, hst.keep b h0]
      · rw [hlimχ]; rfl
      · exact hstχ.le.ρ.trans hst.le.ρ.symm
      · exact hstχ.le.str.trans hst.le.str.symm
      · cases e
        have h0 := hnum b (hdom b hb)
        rw [hstχ.kept b h0, ← hst.kept b h0]; exact hv
end

/-! ### keys that are told alike are one -/
theorem bagAt_plain {m : Nat} {L L2 : List ABlk} {v : TV} (hL : ∀ x ∈ L, x.rel = [] ∧ x.old = false) (hb : bagAt m L v = some L2) : ∀ x ∈ L2, x.rel = [] ∧ x.old = false := by
  have set : ∀ {L : List ABlk} {i : Nat} {y : ABlk}, (∀ x ∈ L, x.rel = [] ∧ x.old = false) → (y.rel = [] ∧ y.old = false) → ∀ x ∈ setN i y L, x.rel = [] ∧ x.old = false := by
    intro L i y hL hy x hx
    obtain ⟨k, hk⟩ := List.getElem?_of_mem hx
    rw [setN_get] at hk
    by_cases h1 : k = i
    · rw [if_pos h1] at hk
      by_cases h2 : i < L.length
      · rw [if_pos h2] at hk; cases hk; exact hy
      · rw [if_neg h2] at hk; cases hk
    · rw [if_neg h1] at hk; exact hL x (List.mem_of_getElem? hk)
  unfold bagAt at hb
  split at hb
  · obtain ⟨_, hb⟩ := ifbNo hb
    split at hb
    · obtain ⟨_, hb⟩ := ifb_eq hb
      split at hb
      · split at hb
        · obtain ⟨_, hb⟩ := ifbNo hb
          obtain ⟨had, _, hb⟩ := onSome_eq hb
          obtain ⟨_, hb⟩ := ifb_eq hb
          obtain ⟨r', _, hb⟩ := onSome_eq hb
          cases hb
          exact set (set hL ⟨rfl, rfl⟩) ⟨rfl, rfl⟩
        · cases hb
      · obtain ⟨r', _, hb⟩ := onSome_eq hb
        cases hb
        intro x hx
        rcases List.mem_append.1 hx with hx | hx
        · exact set hL ⟨rfl, rfl⟩ x hx
        · simp at hx; subst hx; exact ⟨rfl, rfl⟩
    · cases hb
  · cases hb
theorem bagK_plain {m : Nat} {L : List ABlk} (hL : ∀ x ∈ L, x.rel = [] ∧ x.old = false) : ∀ vs : List TV, ∀ x ∈ bagK m L vs, x.rel = [] ∧ x.old = false
  | [] => hL
  | v :: vs => by
    show ∀ x ∈ onSome (bagAt m L v) (fun L => L) (bagK m L vs), _
    cases hb : bagAt m L v with
    | none => exact bagK_plain hL vs
    | some L2 => exact bagAt_plain hL hb
theorem renBs_plain {τ : St} {r : Nat → Option Nat} : ∀ {S : List Nat} {L : List ABlk}, renBs τ r S = some L → ∀ x ∈ L, x.rel = [] ∧ x.old = false
  | [], L, h, x, hx => by cases h; cases hx
  | b :: S, L, h, x, hx => by
    obtain ⟨y, hy, h1⟩ := onSome_eq h
    obtain ⟨l, hl, h2⟩ := onSome_eq h1
    cases h2
    rcases List.mem_cons.1 hx with rfl | hx
    · exact renB_plain hy
    · exact renBs_plain hl x hx
theorem tellA_plain {m : Nat} {it : AV} {vals : List AV} {τ : St} {k : Key} (h : tellA m it vals τ = some k) : ∀ x ∈ k.2, x.rel = [] ∧ x.old = false := by
  obtain ⟨_, h1⟩ := ifb_eq h
  obtain ⟨vs, _, h2⟩ := onSome_eq h1
  obtain ⟨c, hc, h3⟩ := onSome_eq h2
  obtain ⟨v', L⟩ := c
  have h3 : v'.onT (fun vs => some (vs, bagK m L vs)) none = some k := h3
  cases v' with
  | c x => cases h3
  | a l => cases h3
  | t vs' =>
    cases h3
    obtain ⟨_, h4⟩ := ifb_eq (show ifb (Nat.ble m (Nat.succ τ.dirty)) _ none = some (AV.t vs', L) from hc)
    obtain ⟨S, _, h5⟩ := onSome_eq h4
    obtain ⟨y, _, h6⟩ := onSome_eq h5
    obtain ⟨L', hL', h7⟩ := onSome_eq h6
    cases h7
    exact bagK_plain (renBs_plain hL') vs'
theorem sameBlks_plain : ∀ {L M : List ABlk}, (∀ x ∈ L, x.rel = [] ∧ x.old = false) → (∀ x ∈ M, x.rel = [] ∧ x.old = false) → sameBlks L M = true → L = M
  | [], [], _, _, _ => rfl
  | a :: L, b :: M, h1, h2, h => by
    obtain ⟨h3, h4⟩ := ifb_and h
    rw [sameBlk_plain (h1 a (by simp)) (h2 b (by simp)) h3, sameBlks_plain (fun x hx => h1 x (by simp [hx])) (fun x hx => h2 x (by simp [hx])) h4]
  | [], _ :: _, _, _, h => by cases h
  | _ :: _, [], _, _, h => by cases h
theorem goneOf_keys {tell : T → St → Option Key} : ∀ (os : List Out) (k : Key), k ∈ (goneOf tell os).keys → ∃ t σ, tell t σ = some k
  | [], k, h => by simp [goneOf] at h
  | ⟨x, t, σ⟩ :: l, k, h => by
    have ih := goneOf_keys (tell := tell) l k
    cases x with
    | nm =>
      rw [goneOf_nm] at h
      cases ht : tell t σ with
      | none => rw [ht] at h; exact ih h
      | some q =>
        rw [ht] at h
        have h : k ∈ (match hasKey q (goneOf tell l).keys with | true => (goneOf tell l).keys | false => q :: (goneOf tell l).keys) := h
        cases hk : hasKey q (goneOf tell l).keys with
        | true => rw [hk] at h; exact ih h
        | false =>
          rw [hk] at h
          rcases List.mem_cons.1 h with rfl | h
          · exact ⟨t, σ, ht⟩
          · exact ih h
    | ex i => rw [goneOf_ex] at h; exact ih h
    | rt => rw [goneOf_rt] at h; exact ih h
theorem goneOf_spec {m : Nat} {it : AV} {gets : T → List AV} {tell : T → St → Option Key} (ht : tell = fun t τ => tellA m it (gets t) τ) (os : List Out) (o : Out) (ho : o ∈ os) : match o.x with
    | .nm => (∃ q, tell o.t o.σ = some q ∧ q ∈ (goneOf tell os).keys) ∨ (⟨o.t, o.σ⟩ : TS) ∈ (goneOf tell os).rest
    | _ => o ∈ (goneOf tell os).done := by
  have h := goneOf_spec0 (tell := tell) os o ho
  obtain ⟨x, t, σ⟩ := o
  cases x with
  | nm =>
    rcases h with ⟨q, q', h1, h2, h3⟩ | h
    · left
      refine ⟨q, h1, ?_⟩
      rcases h3 with rfl | h3
      · exact h2
      · obtain ⟨t', σ', h4⟩ := goneOf_keys os q' h2
        obtain ⟨h5, h6⟩ := ifb_and h3
        have e1 := sameTs_eq h5
        have e2 := sameBlks_plain (tellA_plain (by rw [ht] at h1; exact h1)) (tellA_plain (by rw [ht] at h4; exact h4)) h6
        rw [show q = q' from Prod.ext e1 e2]; exact h2
    · exact .inr h
  | ex i => exact h
  | rt => exact h
end Go.Ev
