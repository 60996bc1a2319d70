/-
  Slices, composites, conversions; every quiet operation.
-/
import Derived.Test.YtjjnhpoemcihgaaGreatEvi
namespace Go.Ev

/-- A value that may not be given. -/
def VRopt (φ : Phi) : Option AV → Option Value → Prop
  | none, none => True
  | some x, some u => VR φ x u
  | _, _ => False

section
variable {P : Program} {Γ : Tab} (hΓ : TabOk P Γ) {φ : Phi} {base : Nat} {σ : St} {w : World}

theorem bnd_sound {x : Option AV} {u : Option Value} (hx : VRopt φ x u) {dflt hi n : Nat} (h : bnd x dflt hi = some n) :
    match u with
    | none => n = dflt
    | some v => ∃ k, v = .int k (.ofNat n) ∧ n ≤ hi := by
  cases x with
  | none =>
    cases u with
    | none => cases h; rfl
    | some v => exact hx.elim
  | some y =>
    cases u with
    | none => exact hx.elim
    | some v =>
      obtain ⟨k, i, rfl, h1⟩ := onN_some (v := y) h
      obtain ⟨hle, h2⟩ := ifb_eq h1
      cases h2
      exact ⟨k, hx, Nat.le_of_ble_eq_true hle⟩

theorem run_sliceBound (P : Program) (w : World) {k : IntKind} {n y : Nat} (h : n ≤ y) (code : BoundsCode) : (Instr.sliceBound (.int k (n : Int)) y code).run P w = .ok n w := by
  have h1 : (0 : Int) ≤ (n : Int) ∧ (n : Int) ≤ (y : Int) := ⟨Int.natCast_nonneg n, Int.ofNat_le.2 h⟩
  simp only [Instr.sliceBound, asIntOf, Sem.run_bind, Sem.run_pure, Result.andThen_ok, Sem.run_ite, if_pos h1]
  rfl

/-- Bounds: lo, hi, max, as the evaluator takes them, are the model's; the capacity may be greater than is known where no max is given. -/
theorem bnd3_sound {lo hi mx : Option AV} {ulo uhi umx : Option Value} (h1 : VRopt φ lo ulo) (h2 : VRopt φ hi uhi) (h3 : VRopt φ mx umx) {len cap c l h m : Nat} (hc : cap ≤ c) (hle : len ≤ cap)
    (hh : bnd3 lo hi mx len cap = some (l, h, m)) (isS : Bool) (w : World) :
    ∃ m', (Instr.sliceBounds isS len c ulo uhi umx).run P w = .ok (l, h, m') w ∧ l ≤ h ∧ h ≤ m ∧ m ≤ m' ∧ (umx.isSome = true → m' = m) ∧ (umx.isSome = false → m = cap ∧ m' = c) := by
  unfold bnd3 at hh
  obtain ⟨m1, hm, hh⟩ := onSome_eq hh
  obtain ⟨hg, hh⟩ := ifb_none hh
  obtain ⟨h', hhi, hh⟩ := onSome_eq hh
  obtain ⟨l', hlo, hh⟩ := onSome_eq hh
  cases hh
  have bm := bnd_sound h3 hm
  have bh := bnd_sound h2 hhi
  have bl := bnd_sound h1 hlo
  cases umx with
  | none =>
    have bm : m = cap := bm
    subst bm
    refine ⟨c, ?_, ?_, ?_, hc, by simp, by simp⟩
    · cases uhi with
      | none =>
        have bh : h = len := bh
        subst bh
        cases ulo with
        | none => have bl : l = 0 := bl; subst bl; simp [Instr.sliceBounds]
        | some v =>
          obtain ⟨k, rfl, hb⟩ := bl
          simp [Instr.sliceBounds, run_sliceBound P w hb]
      | some v =>
        obtain ⟨k, rfl, hb⟩ := bh
        cases ulo with
        | none => have bl : l = 0 := bl; subst bl; simp [Instr.sliceBounds, run_sliceBound P w (Nat.le_trans hb hc)]
        | some v =>
          obtain ⟨k, rfl, hb'⟩ := bl
          simp [Instr.sliceBounds, run_sliceBound P w (Nat.le_trans hb hc), run_sliceBound P w hb']
    · cases ulo with
      | none => have bl : l = 0 := bl; omega
      | some v => obtain ⟨k, rfl, hb'⟩ := bl; exact hb'
    · cases uhi with
      | none => have bh : h = len := bh; omega
      | some v => obtain ⟨k, rfl, hb⟩ := bh; exact hb
  | some vm =>
    obtain ⟨km, rfl, hbm⟩ := bm
    refine ⟨m, ?_, ?_, ?_, Nat.le_refl _, by simp, by simp⟩
    · cases uhi with
      | none =>
        cases mx with
        | none => exact h3.elim
        | some x => cases hi with
          | none => simp at hg
          | some y => exact h2.elim
      | some v =>
        obtain ⟨k, rfl, hb⟩ := bh
        cases ulo with
        | none => have bl : l = 0 := bl; subst bl; simp [Instr.sliceBounds, run_sliceBound P w (Nat.le_trans hbm hc), run_sliceBound P w hb]
        | some v =>
          obtain ⟨k, rfl, hb'⟩ := bl
          simp [Instr.sliceBounds, run_sliceBound P w (Nat.le_trans hbm hc), run_sliceBound P w hb, run_sliceBound P w hb']
    · cases ulo with
      | none => have bl : l = 0 := bl; omega
      | some v => obtain ⟨k, rfl, hb'⟩ := bl; exact hb'
    · cases uhi with
      | none =>
        cases mx with
        | none => exact h3.elim
        | some x => cases hi with
          | none => simp at hg
          | some y => exact h2.elim
      | some v => obtain ⟨k, rfl, hb⟩ := bh; exact hb

theorem VRopt.isSome {x : Option AV} {u : Option Value} (h : VRopt φ x u) : x.isSome = u.isSome := by
  cases x <;> cases u <;> first | rfl | exact h.elim

theorem nats_extract (s : ByteArray) (l h : Nat) : nats (s.extract l h) = ((nats s).drop l).take (h - l) := by
  unfold nats
  rw [Lib.extract_data, List.map_take, List.map_drop]

include hΓ
theorem sliceB_sound {t : TypeId} {x r : AV} {lo hi mx : Option AV} {u : Value} {ulo uhi umx : Option Value} (h : (sliceB Γ t).run x lo hi mx = some r)
    (hx : VR φ x u) (h1 : VRopt φ lo ulo) (h2 : VRopt φ hi uhi) (h3 : VRopt φ mx umx) (w : World) :
    ∃ z, (Instr.sliceAt t u ulo uhi umx).run P w = .ok z w ∧ VR φ r z := by
  unfold sliceB at h
  split at h
  · rename_i ht
    obtain ⟨s, rfl, g1⟩ := onS_some h
    obtain ⟨hm, g2⟩ := ifb_none g1
    obtain ⟨⟨l, hh, m⟩, hb, g3⟩ := onSome_eq g2
    obtain ⟨q, hq, g4⟩ := onSome_eq g3
    cases g4
    obtain ⟨b, rfl, rfl⟩ := hx
    rw [h3.isSome] at hm
    cases umx with
    | some v => cases hm
    | none =>
      obtain ⟨m', hr, _⟩ := bnd3_sound (P := P) h1 h2 (show VRopt φ none none from trivial) (Nat.le_refl _) (Nat.le_refl _) hb false w
      rw [dropN_eq] at hq
      obtain ⟨rfl, hlen⟩ := takeN_some hq
      rw [nats_length] at hr
      refine ⟨.string (b.extract l hh), ?_, _, rfl, nats_extract b l hh⟩
      simp [Instr.sliceAt, Instr.slice, run_underlying (hΓ.und ht), hr]
  · rename_i e ht
    split at h
    · rename_i n hs
      obtain ⟨inf, hinf, hsz⟩ := hΓ.size hs
      have hsize : ∀ w, (sizeOf e).run P w = .ok n w := fun w => by simp [sizeOf, typeInfo, hinf, hsz]
      obtain ⟨x, rfl, g1⟩ := onO_some h
      clear h
      cases x <;> simp only [] at g1 <;> try (cases g1; done)
      · rename_i b off len cap ex
        obtain ⟨⟨l, hh, m⟩, hb, g2⟩ := onSome_eq g1
        obtain ⟨g, o, c, hp, rfl, hcap, hex, hlc, hun⟩ := hx
        · obtain ⟨m', hr, hlh, hhm, hmm, hmx, hmn⟩ := bnd3_sound (P := P) h1 h2 h3 hcap hlc hb true w
          have hrun : (Instr.sliceAt t (.slice (some ⟨g, o + off, none⟩) len c) ulo uhi umx).run P w =
              .ok (.slice (if m' = l then some ⟨g, o + off, none⟩ else some (Addr.add ⟨g, o + off, none⟩ (l * n))) (hh - l) (m' - l)) w := by
            simp only [Instr.sliceAt, Instr.slice, Sem.run_bind, run_underlying (hΓ.und ht), Result.andThen_ok, hr, hsize, Sem.run_pure]
            rfl
          refine ⟨_, hrun, ?_⟩
          rw [Addr.add_lit]
          have hmi := h3.isSome
          have hexm : ifb mx.isSome 0 ex = 0 → m' = m := by
            intro he
            cases humx : umx.isSome with
            | true => exact hmx humx
            | false =>
              rw [hmi, humx] at he
              obtain ⟨e1, e2⟩ := hmn humx; rw [e1, e2]; exact hex he
          cases hq : (ifb mx.isSome 0 ex) with
          | zero =>
            simp only [hq] at g2
            have hmm' := hexm hq
            subst hmm'
            cases g2
            by_cases hml : m' = l
            · subst hml
              have hbq : Nat.beq m' m' = true := by rw [beq_iff]; simp
              refine ⟨g, o, _, hp, ?_, Nat.le_refl _, fun _ => rfl, Nat.sub_le_sub_right hhm _, fun s hs => by cases hs⟩
              simp
            · have hbq : Nat.beq m' l = false := by rw [beq_iff]; simpa using hml
              refine ⟨g, o, _, hp, ?_, Nat.le_refl _, fun _ => rfl, Nat.sub_le_sub_right hhm _, fun s hs => by cases hs⟩
              simp [hbq, hml, Nat.add_assoc]
          | succ s =>
            simp only [hq] at g2
            have hmx0 : umx.isSome = false := by
              rw [← hmi]
              cases hmx' : mx.isSome with
              | false => rfl
              | true => rw [hmx'] at hq; cases hq
            have hexs : ex = s + 1 := by rw [hmi, hmx0] at hq; exact hq
            obtain ⟨hsn, g2⟩ := ifb_eq g2
            have hsn : s = n := by rw [beq_iff] at hsn; simpa using hsn
            subst hsn
            have hlim := hun s hexs
            obtain ⟨e1, e2⟩ := hmn hmx0
            subst e1; subst e2
            cases hl : Nat.beq l 0 with
            | true =>
              rw [hl] at g2
              cases g2
              have : l = 0 := by rw [beq_iff] at hl; simpa using hl
              subst this
              refine ⟨g, o, m', hp, ?_, hmm, fun hf => (by cases hf), hhm, fun s' hs' => by cases hs'; exact hlim⟩
              simp
            | false =>
              rw [hl] at g2
              have hl0 : l ≠ 0 := by rw [beq_iff] at hl; simpa using hl
              cases hlm : Nat.blt l m with
              | true =>
                rw [hlm] at g2
                cases g2
                rw [Nat.blt_eq] at hlm
                refine ⟨g, o, m' - l, hp, ?_, by show m - l ≤ m' - l; omega, fun hf => (by cases hf), Nat.sub_le_sub_right hhm _, fun s' hs' => ?_⟩
                · rw [if_neg (by omega)]
                  simp [Nat.add_assoc]
                · cases hs'
                  have : l * s + (m' - l) * s = m' * s := by rw [← Nat.add_mul]; congr 1; omega
                  show o + (off + l * s) + (m' - l) * s ≤ φ.lim g
                  omega
              | false =>
                rw [hlm] at g2
                cases g2
                have : ¬ l < m := by rw [blt_iff] at hlm; simpa using hlm
                have e0 : hh - l = 0 := by omega
                rw [e0]
                exact ⟨_, _, rfl⟩
      · -- nil
        obtain ⟨⟨l, hh, m⟩, hb, g2⟩ := onSome_eq g1
        cases g2
        have hx : u = .slice none 0 0 := hx
        subst hx
        obtain ⟨m', hr, hlh, hhm, hmm, hmx, hmn⟩ := bnd3_sound (P := P) h1 h2 h3 (Nat.le_refl 0) (Nat.le_refl 0) hb true w
        have hm0 : m = 0 ∧ m' = 0 := by
          cases humx : umx.isSome with
          | false => exact hmn humx
          | true =>
            have := hmx humx
            subst this
            unfold bnd3 at hb
            obtain ⟨_, hb1, hb⟩ := onSome_eq hb
            obtain ⟨_, hb⟩ := ifb_none hb
            obtain ⟨_, hb2, hb⟩ := onSome_eq hb
            obtain ⟨_, hb3, hb⟩ := onSome_eq hb
            cases hb
            have := bnd_sound h3 hb1
            cases umx with
            | none => cases humx
            | some v => obtain ⟨k, _, hk⟩ := this; omega
        obtain ⟨rfl, rfl⟩ := hm0
        have e1 : hh = 0 := by omega
        have e2 : l = 0 := by omega
        subst e1; subst e2
        refine ⟨.slice none 0 0, ?_, rfl⟩
        simp [Instr.sliceAt, Instr.slice, run_underlying (hΓ.und ht), hr, hsize]
      · -- empty
        obtain ⟨hmx, g2⟩ := ifb_none g1
        obtain ⟨⟨l, hh, m⟩, hb, g3⟩ := onSome_eq g2
        cases g3
        obtain ⟨a, c, rfl⟩ := hx
        rw [h3.isSome] at hmx
        cases umx with
        | some v => cases hmx
        | none =>
          obtain ⟨m', hr, hlh, hhm, hmm, hmx, hmn⟩ := bnd3_sound (P := P) h1 h2 (show VRopt φ none none from trivial) (Nat.zero_le c) (Nat.le_refl 0) hb true w
          obtain ⟨rfl, rfl⟩ := hmn rfl
          have e1 : hh = 0 := by omega
          have e2 : l = 0 := by omega
          subst e1; subst e2
          refine ⟨.slice (if m' = 0 then a else a.map (·.add (0 * n))) 0 m', ?_, _, _, rfl⟩
          simp [Instr.sliceAt, Instr.slice, run_underlying (hΓ.und ht), hr, hsize]
    · cases h
  · rename_i len e ht
    split at h
    · rename_i n hs
      obtain ⟨inf, hinf, hsz⟩ := hΓ.size hs
      have hsize : ∀ w, (sizeOf e).run P w = .ok n w := fun w => by simp [sizeOf, typeInfo, hinf, hsz]
      obtain ⟨b, off, rfl, g1⟩ := onP_some h
      obtain ⟨⟨l, hh, m⟩, hb, g2⟩ := onSome_eq g1
      cases g2
      obtain ⟨g, o, hp, rfl⟩ := hx
      obtain ⟨m', hr, hlh, hhm, hmm, hmx, hmn⟩ := bnd3_sound (P := P) h1 h2 h3 (Nat.le_refl len) (Nat.le_refl len) hb false w
      have hm' : m' = m := by
        cases humx : umx.isSome with
        | true => exact hmx humx
        | false => obtain ⟨e1, e2⟩ := hmn humx; omega
      subst hm'
      refine ⟨.slice (some (if m' = l then ⟨g, o + off, none⟩ else Addr.add ⟨g, o + off, none⟩ (l * n))) (hh - l) (m' - l), ?_, ?_⟩
      · simp [Instr.sliceAt, Instr.sureAddr, run_underlying (hΓ.und ht), hr, hsize]
      · rw [Addr.add_lit]
        by_cases hml : m' = l
        · subst hml
          have hbq : Nat.beq m' m' = true := by rw [beq_iff]; simp
          refine ⟨g, o, _, hp, ?_, Nat.le_refl _, fun _ => rfl, Nat.sub_le_sub_right hhm _, fun s hs => by cases hs⟩
          simp
        · have hbq : Nat.beq m' l = false := by rw [beq_iff]; simpa using hml
          refine ⟨g, o, _, hp, ?_, Nat.le_refl _, fun _ => rfl, Nat.sub_le_sub_right hhm _, fun s hs => by cases hs⟩
          simp [hbq, hml, Nat.add_assoc]
    · cases h
  · cases h
end

end Go.Ev
