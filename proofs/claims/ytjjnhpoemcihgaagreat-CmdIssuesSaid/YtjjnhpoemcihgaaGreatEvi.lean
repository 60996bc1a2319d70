/-
  The other quiet operations.
-/
import Derived.Test.YtjjnhpoemcihgaaGreatEvha
namespace Go.Ev

theorem run_getMap (P : Program) {w : World} {g c : Nat} {es : Array MapEntry} (hg : w.heap[g]? = some (.map es c)) : (getObj g).run P w = .ok (.map es c) w := by
  simp [getObj, Sem.run, hg]

section
variable {P : Program} {Γ : Tab} (hΓ : TabOk P Γ) {φ : Phi} {base : Nat} {σ : St} {w : World}

theorem unB_sound {op : UnOp} {x r : AV} {u : Value} (h : (unB op).run x = some r) (hx : VR φ x u) : ∃ z, (Op.unary op u).run P w = .ok z w ∧ VR φ r z := by
  cases op <;> simp only [unB] at h <;> try (cases h; done)
  case neg =>
    obtain ⟨k, n, rfl, h1⟩ := onI_some h
    cases h1
    have hx : u = .int k n := hx
    subst hx
    exact ⟨.int k (k.wrap (0 - n)), by simp [Op.unary, Op.intArith], by show _ = Value.int k _; rw [wrapF_eq]; rfl⟩
  case xor =>
    obtain ⟨k, n, rfl, h1⟩ := onI_some h
    have hx : u = .int k n := hx
    subst hx
    obtain ⟨z, hz, hr⟩ := intB_sound h1 (by simp) P 0 w φ
    exact ⟨z, by simpa [Op.unary, binOp] using hz, hr⟩
  case not =>
    obtain ⟨b, rfl, h1⟩ := onB_some h
    cases h1
    have hx : u = .bool b := hx
    subst hx
    exact ⟨.bool (!b), by simp [Op.unary], rfl⟩

theorem withOk_sound {ok : Bool} {x r : AV} {u : Value} {is : Bool} (h : withOk ok x is = some r) (hx : VR φ x u) : VR φ r (if ok then .tuple #[u, .bool is] else u) := by
  cases ok with
  | false => cases h; exact hx
  | true =>
    cases x with
    | t l => cases h
    | c x => cases h; exact ⟨_, rfl, hx, rfl, trivial⟩
    | a l => cases h; exact ⟨_, rfl, hx, rfl, trivial⟩

include hΓ
theorem lookupB_sound (hm : MR base φ σ w) {t : TypeId} {ok : Bool} {x k r : AV} {u uk : Value} (h : (lookupB P Γ t ok).run σ x k = some r) (hx : VR φ x u) (hk : VR φ k uk) :
    ∃ z, (Instr.lookup t u uk ok).run P w = .ok z w ∧ VR φ r z := by
  unfold lookupB at h
  cases ht : Γ.und t with
  | none => rw [ht] at h; cases h
  | some d =>
    cases d <;> rw [ht] at h <;> try (cases h; done)
    rename_i kt et
    cases hz : Γ.zero et with
    | none => simp only [hz] at h; cases h
    | some z =>
      simp only [hz] at h
      obtain ⟨hok, h1⟩ := ifb_eq h
      obtain ⟨x, rfl, h2⟩ := onO_some h1
      obtain ⟨i, zv, hi, hzv, rfl⟩ := hΓ.zero hz
      have hzero : (zeroValue et).run P w = .ok zv w := by simp [zeroValue, typeInfo, hi, hzv]
      have hzr : VR φ (ofV zv) zv := VR_ofV φ zv
      have hck : ∀ e, (Instr.checkKey e 10000 kt uk).run P w = .ok () w := fun e => keyOkB_sound hΓ 10000 kt k uk e w hok hk
      clear h h1
      cases x <;> simp only [] at h2 <;> try (cases h2; done)
      · -- map
        rename_i b
        obtain ⟨g, hp, rfl⟩ := hx
        obtain ⟨es, c, hb, h3⟩ := onMap_some h2
        obtain ⟨_, ces, hg, hes⟩ := hm.mapAt hb hp
        obtain ⟨q, hq, h4⟩ := onSome_eq h3
        have hf := findE_sound hΓ hm.factsHold hk es ces.toList 0 q w hq hes
        have hund := hΓ.und ht
        have hkd : ∃ d, P.underlying kt = some d := by
          unfold keyOkB at hok
          cases hkt : Γ.und kt with
          | none => rw [hkt] at hok; cases hok
          | some d => exact ⟨d, hΓ.und hkt⟩
        obtain ⟨d, hd⟩ := hkd
        cases q with
        | none =>
          have hf : (Instr.findAsking kt uk ces.toList 0).run P w = .ok none w := hf
          have hfk := findKey_of_asking hd hf
          refine ⟨_, ?_, withOk_sound (u := zv) (is := false) h4 hzr⟩
          simp [Instr.lookup, run_underlying hund, run_getMap P hg, hck, hfk, hzero]
        | some p =>
          obtain ⟨j, v, born⟩ := p
          obtain ⟨vu, c', hf, hv, _⟩ := hf
          have hfk := findKey_of_asking hd hf
          refine ⟨_, ?_, withOk_sound (u := vu) (is := true) h4 hv⟩
          simp [Instr.lookup, run_underlying hund, run_getMap P hg, hck, hfk]
      · -- nil map
        have hx : u = .map none := hx
        subst hx
        have hund := hΓ.und ht
        refine ⟨_, ?_, withOk_sound (u := zv) (is := false) h2 hzr⟩
        have hkd : ∃ d, P.underlying kt = some d := by
          unfold keyOkB at hok
          cases hkt : Γ.und kt with
          | none => rw [hkt] at hok; cases hok
          | some d => exact ⟨d, hΓ.und hkt⟩
        obtain ⟨d, hd⟩ := hkd
        have hfk := findKey_of_asking (P := P) (k := uk) (es := []) (r := none) (w := w) hd (by simp [Instr.findAsking])
        simp [Instr.lookup, run_underlying hund, hck, hfk, hzero]

omit hΓ in
theorem decSb_sound {F : List Fact} (hF : ∀ f ∈ F, f.holds φ.ρ φ.str) {v : AV} {u : Value} {b : Bool} (h : decSb F v = some b) (hv : VR φ v u) : u = .bool b := by
  obtain ⟨x, rfl, h1⟩ := onO_some h
  clear h
  revert hv
  have h := h1
  clear h1
  cases x <;> first
    | (cases h; done)
    | skip
  rename_i m c l
  intro hv
  have hv : u = .bool (sbVal φ.ρ m c l) := hv
  rw [hv]
  match m with
  | 0 => rw [decLe_sound hF h]; rfl
  | 1 => rw [decEq_sound hF h]; rfl
  | m + 2 =>
    obtain ⟨q, hq, h1⟩ := onSome_eq (show onSome (decEq F c l) (fun b => some (!b)) none = some b from h)
    cases h1
    rw [decEq_sound hF hq]; rfl
omit hΓ in
theorem unS_sound (hm : MR base φ σ w) {op : UnOp} {x r : AV} {u : Value} (h : (unS op).run σ x = some r) (hx : VR φ x u) : ∃ z, (Op.unary op u).run P w = .ok z w ∧ VR φ r z := by
  cases op <;> simp only [unS] at h <;> try (cases h; done)
  case neg =>
    obtain ⟨k, c, l, h1, h2⟩ := onL_some h
    have h3 := mkSy_sound hm.factsHold h1
    rw [evalL_neg] at h3
    rw [h2 φ u hx]
    refine ⟨.int k (k.wrap (0 - (c + evalL φ.ρ l))), by simp [Op.unary, Op.intArith], ?_⟩
    rw [show (0 - (c + evalL φ.ρ l)) = Int.neg c + -evalL φ.ρ l from by show _ = -c + _; omega]
    exact h3
  case not =>
    obtain ⟨x, rfl, h1⟩ := onO_some h
    clear h
    revert hx
    have h := h1
    clear h1
    cases x <;> first
      | (cases h; done)
      | skip
    rename_i m c l
    intro hx
    have hx : u = .bool (sbVal φ.ρ m c l) := hx
    rw [hx]
    refine ⟨.bool (!sbVal φ.ρ m c l), by simp [Op.unary], ?_⟩
    match m with
    | 0 =>
      cases h
      show Value.bool (!decide (c + evalL φ.ρ l ≤ 0)) = Value.bool (decide (Int.sub 1 c + evalL φ.ρ (negL l) ≤ 0))
      rw [evalL_neg]
      congr 1
      rw [Bool.eq_iff_iff, Bool.not_eq_true', decide_eq_false_iff_not, decide_eq_true_eq]
      show _ ↔ (1 - c) + _ ≤ 0
      omega
    | 1 => cases h; exact rfl
    | m + 2 =>
      cases h
      show Value.bool _ = Value.bool (sbVal φ.ρ 1 c l)
      unfold sbVal
      simp
theorem lenB_sound (hm : MR base φ σ w) {t : TypeId} {x r : AV} {u : Value} (h : (lenB Γ t).run σ x = some r) (hx : VR φ x u) (ty : TypeId) :
    ∃ z, (Builtin.len_ #[t] ty #[u]).run P w = .ok z w ∧ VR φ r z := by
  unfold lenB at h
  split at h
  · rename_i ht
    rcases onS_or h with ⟨s, rfl, h1⟩ | h1
    · cases h1
      obtain ⟨b, rfl, rfl⟩ := hx
      exact ⟨.int .i64 b.size, by simp [Builtin.len_, run_underlying (hΓ.und ht), goInt], by show _ = Value.int .i64 _; rw [nats_length]; rfl⟩
    · obtain ⟨x, rfl, h2⟩ := onO_some h1
      clear h h1
      cases x <;> simp only [] at h2 <;> try (cases h2; done)
      rename_i i
      have hx : u = .string (φ.str i) := hx
      subst hx
      exact ⟨.int .i64 (φ.str i).size, by simp [Builtin.len_, run_underlying (hΓ.und ht), goInt], findLen_sound hm.factsHold h2⟩
  · rename_i n e ht
    cases h
    exact ⟨.int .i64 n, by simp [Builtin.len_, run_underlying (hΓ.und ht), goInt], rfl⟩
  · rename_i e ht
    obtain ⟨x, rfl, h1⟩ := onO_some h
    clear h
    cases x <;> simp only [] at h1 <;> try (cases h1; done)
    · cases h1
      obtain ⟨g, o, c, _, rfl, _⟩ := hx
      exact ⟨_, by simp [Builtin.len_, run_underlying (hΓ.und ht)]; rfl, rfl⟩
    · cases h1
      have hx : u = .slice none 0 0 := hx
      subst hx
      exact ⟨.int .i64 0, by simp [Builtin.len_, run_underlying (hΓ.und ht), goInt], rfl⟩
    · cases h1
      obtain ⟨a, c, rfl⟩ := hx
      exact ⟨.int .i64 0, by simp [Builtin.len_, run_underlying (hΓ.und ht), goInt], rfl⟩
  · rename_i k e ht
    obtain ⟨x, rfl, h1⟩ := onO_some h
    clear h
    cases x <;> simp only [] at h1 <;> try (cases h1; done)
    · obtain ⟨g, hp, rfl⟩ := hx
      obtain ⟨es, c, hb, h2⟩ := onMap_some h1
      cases h2
      obtain ⟨_, ces, hg, hes⟩ := hm.mapAt hb hp
      exact ⟨.int .i64 ces.size, by simp [Builtin.len_, run_underlying (hΓ.und ht), run_getMap P hg, goInt], by
        show _ = Value.int .i64 _
        have := hes.length
        rw [this]; simp⟩
    · cases h1
      have hx : u = .map none := hx
      subst hx
      exact ⟨.int .i64 0, by simp [Builtin.len_, run_underlying (hΓ.und ht), goInt], rfl⟩
  · rename_i a ht
    split at h
    · rename_i n e he
      cases h
      exact ⟨.int .i64 n, by simp [Builtin.len_, run_underlying (hΓ.und ht), run_underlying (hΓ.und he), goInt], rfl⟩
    · cases h
  · cases h

theorem fieldAddrB_sound {t : TypeId} {f : Nat} {x r : AV} {u : Value} (h : (fieldAddrB Γ t f).run x = some r) (hx : VR φ x u) :
    ∃ z, (∀ w, (Instr.fieldAt t u f).run P w = .ok z w) ∧ VR φ r z := by
  unfold fieldAddrB at h
  split at h
  · rename_i fs ht
    split at h
    · rename_i fd hf
      split at h
      · rename_i n hs
        obtain ⟨b, off, rfl, h1⟩ := onP_some h
        cases h1
        obtain ⟨g, o, hp, rfl⟩ := hx
        obtain ⟨i, hi, hn⟩ := hΓ.size hs
        rw [nth_eq] at hf
        have hf : fs[f]? = some fd := by simpa using hf
        refine ⟨.pointer (some ⟨g, o + off + fd.offset, none⟩), fun w => ?_, g, o, hp, by simp [Nat.add_assoc]⟩
        have hne : ¬ (i.size = 0) := by omega
        simp [Instr.fieldAt, run_underlying (hΓ.und ht), hf, Instr.sureAddr, fieldPlace, sizeOf, typeInfo, hi, hne, Addr.add_lit]
      · cases h
    · cases h
  · cases h

theorem fieldB_sound {t : TypeId} {f : Nat} {x r : AV} {u : Value} (h : (fieldB Γ t f).run x = some r) (hx : VR φ x u) (w : World) :
    ∃ z, (Instr.field t u f).run P w = .ok z w ∧ VR φ r z := by
  unfold fieldB at h
  split at h
  · rename_i fs ht
    split at h
    · rename_i fd hf
      obtain ⟨cs, rfl, h1⟩ := onA_some h
      obtain ⟨us, rfl, hx⟩ := hx
      rw [nth_eq] at hf
      have hf : fs[f]? = some fd := by simpa using hf
      obtain ⟨z, hz, hr⟩ := partB_sound hΓ h1 hx w
      exact ⟨z, by simp [Instr.field, run_underlying (hΓ.und ht), hf, asAgg, hz], hr⟩
    · cases h
  · cases h

theorem indexAddrB_sound {t : TypeId} {x i r : AV} {u ui : Value} (h : (indexAddrB Γ t).run x i = some r) (hx : VR φ x u) (hi : VR φ i ui) (w : World) :
    ∃ z, (Instr.indexAt t u ui).run P w = .ok z w ∧ VR φ r z := by
  unfold indexAddrB at h
  split at h
  · rename_i e ht
    split at h
    · rename_i n hs
      obtain ⟨j, i, rfl, h1⟩ := onN_some h
      obtain ⟨x, rfl, h2⟩ := onO_some h1
      clear h h1
      cases x <;> simp only [] at h2 <;> try (cases h2; done)
      obtain ⟨hlt, h3⟩ := ifb_eq h2
      cases h3
      rename_i b off len cap ex
      obtain ⟨g, o, c, hp, rfl, _⟩ := hx
      have hi : ui = .int j (.ofNat i) := hi
      subst hi
      obtain ⟨inf, hinf, rfl⟩ := hΓ.size hs
      rw [Nat.blt_eq] at hlt
      refine ⟨.pointer (some ⟨g, o + off + i * inf.size, none⟩), ?_, g, o, hp, by simp [Nat.add_assoc]⟩
      have h1 : (0 : Int) ≤ Int.ofNat i ∧ Int.ofNat i < (len : Int) := ⟨Int.natCast_nonneg i, Int.ofNat_lt.2 hlt⟩
      simp [Instr.indexAt, asIntOf, run_underlying (hΓ.und ht), hlt, sizeOf, typeInfo, hinf, Addr.add_lit]
    · cases h
  · rename_i len e ht
    split at h
    · rename_i n hs
      obtain ⟨j, i, rfl, h1⟩ := onN_some h
      obtain ⟨b, off, rfl, h2⟩ := onP_some h1
      obtain ⟨hlt, h3⟩ := ifb_eq h2
      cases h3
      obtain ⟨g, o, hp, rfl⟩ := hx
      have hi : ui = .int j (.ofNat i) := hi
      subst hi
      obtain ⟨inf, hinf, rfl⟩ := hΓ.size hs
      rw [Nat.blt_eq] at hlt
      refine ⟨.pointer (some ⟨g, o + off + i * inf.size, none⟩), ?_, g, o, hp, by simp [Nat.add_assoc]⟩
      have h1 : (0 : Int) ≤ Int.ofNat i ∧ Int.ofNat i < (len : Int) := ⟨Int.natCast_nonneg i, Int.ofNat_lt.2 hlt⟩
      simp [Instr.indexAt, asIntOf, Instr.sureAddr, run_underlying (hΓ.und ht), hlt, sizeOf, typeInfo, hinf, Addr.add_lit]
    · cases h
  · cases h

theorem indexB_sound {t : TypeId} {x i r : AV} {u ui : Value} (h : (indexB Γ t).run x i = some r) (hx : VR φ x u) (hi : VR φ i ui) (w : World) :
    ∃ z, (Instr.index t u ui).run P w = .ok z w ∧ VR φ r z := by
  unfold indexB at h
  split at h
  · rename_i ht
    obtain ⟨j, i, rfl, h1⟩ := onN_some h
    obtain ⟨s, rfl, h2⟩ := onS_some h1
    obtain ⟨c, hc, h3⟩ := onSome_eq h2
    cases h3
    obtain ⟨b, rfl, rfl⟩ := hx
    have hi : ui = .int j (.ofNat i) := hi
    subst hi
    rw [nth_eq] at hc
    unfold nats at hc
    rw [List.getElem?_map] at hc
    cases hq : b.data.toList[i]? with
    | none => rw [hq] at hc; cases hc
    | some y =>
      rw [hq] at hc
      cases hc
      have hi' : b[i]? = some y := by
        have hlt : i < b.data.toList.length := (List.getElem?_eq_some_iff.1 hq).1
        have hlt' : i < b.size := by rw [Array.length_toList] at hlt; exact hlt
        rw [getElem?_pos b i hlt']
        congr 1
        have := (List.getElem?_eq_some_iff.1 hq).2
        rw [← this]; rfl
      refine ⟨.int .u8 y.toNat, ?_, rfl⟩
      have h0 : (0 : Int) ≤ Int.ofNat i := Int.natCast_nonneg i
      simp [Instr.index, asIntOf, run_underlying (hΓ.und ht), hi']
  · rename_i len e ht
    split at h
    · rename_i n hs
      obtain ⟨j, i, rfl, h1⟩ := onN_some h
      obtain ⟨cs, rfl, h2⟩ := onA_some h1
      obtain ⟨hlt, h3⟩ := ifb_eq h2
      obtain ⟨us, rfl, hx⟩ := hx
      have hi : ui = .int j (.ofNat i) := hi
      subst hi
      obtain ⟨inf, hinf, rfl⟩ := hΓ.size hs
      rw [Nat.blt_eq] at hlt
      obtain ⟨z, hz, hr⟩ := partB_sound hΓ h3 hx w
      have hz : (part e us (i * inf.size)).run P w = .ok z w := hz
      refine ⟨z, ?_, hr⟩
      have h1 : (0 : Int) ≤ Int.ofNat i ∧ Int.ofNat i < (len : Int) := ⟨Int.natCast_nonneg i, Int.ofNat_lt.2 hlt⟩
      simp [Instr.index, asIntOf, run_underlying (hΓ.und ht), hlt, sizeOf, typeInfo, hinf, hz]
    · cases h
  · cases h
end

end Go.Ev
