/-
  Operations that make a block.
-/
import Derived.Test.YtjjnhpoemcihgaaGreatEvl
import Derived.Great.BuildSlice
import Derived.Laws.MakeOwn
namespace Go.Ev

section
variable {P : Program} {Γ : Tab} (hΓ : TabOk P Γ) {φ : Phi} {base : Nat} {σ : St} {w : World}

theorem CR.of_all {φ : Phi} {l : List Cell} {cs : Array Value} (h : All2 (VRc φ) l cs.toList) : CR φ l 0 cs := by
  intro i x hx
  obtain ⟨v, hv, hr⟩ := h.get hx
  exact ⟨v, by rw [Nat.zero_add]; simpa using hv, hr⟩

theorem rep_length (z : List Cell) : ∀ n, (rep z n).length = n * z.length
  | 0 => by simp [rep]
  | n + 1 => by simp [rep, rep_length z n, Nat.succ_mul, Nat.add_comm]
theorem rep_get (z : List Cell) : ∀ (n i : Nat), i < n * z.length → (rep z n)[i]? = z[i % z.length]?
  | 0, i, h => by simp at h
  | n + 1, i, h => by
    simp only [rep]
    by_cases hi : i < z.length
    · rw [List.getElem?_append_left hi, Nat.mod_eq_of_lt hi]
    · rw [List.getElem?_append_right (by omega), rep_get z n _ (by rw [Nat.succ_mul] at h; omega)]
      rw [← Nat.mod_eq_sub_mod (by omega)]
theorem rep_sound {z : List Cell} {zero : Array Value} (h : All2 (VRc φ) z zero.toList) (n : Nat) :
    All2 (VRc φ) (rep z n) ((Array.range (n * z.length)).map (zero[· % zero.size]!)).toList := by
  have hl := h.length
  refine All2.of_get (by simp [rep_length]) fun i x hx => ?_
  have hi : i < n * z.length := by
    have := (List.getElem?_eq_some_iff.1 hx).1
    rwa [rep_length] at this
  rw [rep_get z n i hi] at hx
  obtain ⟨v, hv, hr⟩ := h.get hx
  refine ⟨v, ?_, hr⟩
  have hs : zero.size = z.length := by rw [← Array.length_toList, hl]
  rw [Array.getElem?_toList, Array.getElem?_map, Array.getElem?_range, if_pos hi]
  simp only [Option.map_some, hs]
  have hv' : zero[i % z.length]? = some v := by simpa using hv
  simp [getElem!_def, hv']

/-- What an operation that makes a block tells. -/
def NewOk (P : Program) (φ : Phi) (o : Oper) (ρ : Operand → Value) (blk : ABlk) (mk : Nat → AV) : Prop :=
  ∃ (c : Obj) (u : Nat → Value), (∀ w, (execOp ρ o).run P w = .ok (.value (u w.heap.size)) (w.alloc c)) ∧
    ∀ (ψ : Phi) (n g : Nat), φ.le ψ → ψ n = some (g, 0) → ψ.lim g = objSize c → VR ψ (mk n) (u g) ∧ ∀ w', w'.heap[g]? = some c → BR ψ w' n blk

theorem NewOk.cells {o : Oper} {ρ : Operand → Value} {e : TypeId} {l : List Cell} {mk : Nat → AV} {cs : Array Value} {u : Nat → Value} (hc : All2 (VRc φ) l cs.toList)
    (hrun : ∀ w, (execOp ρ o).run P w = .ok (.value (u w.heap.size)) (w.alloc (.cells cs e))) (hmk : ∀ (ψ : Phi) (n g : Nat), ψ n = some (g, 0) → VR ψ (mk n) (u g)) : NewOk P φ o ρ (.cells e l [] false) mk := by
  refine ⟨.cells cs e, u, hrun, fun ψ n g hle hn hz => ⟨hmk ψ n g hn, fun w' hw g' o' hg => ?_⟩⟩
  rw [hn] at hg
  cases hg
  exact ⟨cs, hw, CR.of_all (hc.mono fun _ _ => VRc.mono hle), hz.symm⟩
theorem NewOk.map {o : Oper} {ρ : Operand → Value} (hrun : ∀ w, (execOp ρ o).run P w = .ok (.value (.map (some w.heap.size))) (w.alloc (.map #[] 0))) : NewOk P φ o ρ (.map [] 0) mapV := by
  refine ⟨.map #[] 0, fun g => .map (some g), hrun, fun ψ n g hle hn _ => ⟨⟨g, hn, rfl⟩, fun w' hw g' o' hg => ?_⟩⟩
  rw [hn] at hg
  cases hg
  exact ⟨rfl, #[], hw, trivial⟩

theorem ptr0_sound (ψ : Phi) (n g : Nat) (h : ψ n = some (g, 0)) : VR ψ (ptr0 n) (.pointer (some ⟨g, 0, none⟩)) := ⟨g, 0, h, rfl⟩
theorem slcV_sound (ψ : Phi) (n g len cap : Nat) (hl : len ≤ cap) (h : ψ n = some (g, 0)) : VR ψ (slcV 0 len cap 0 n) (.slice (some ⟨g, 0, none⟩) len cap) :=
  ⟨g, 0, cap, h, rfl, Nat.le_refl _, fun _ => rfl, hl, fun s hs => by cases hs⟩

theorem wrap_small {n : Nat} (h : n < 9223372036854775808) : IntKind.i64.wrap (n : Int) = n := by
  have := wrapF_eq .i64 (n : Int)
  rw [← this]
  show ifb (Nat.blt n 9223372036854775808) _ _ = _
  rw [blt_true h]; rfl

include hΓ
theorem okZero_some {e : TypeId} {z : List Cell} (h : okZero Γ e = some z) : ∃ i v, P.info? e = some i ∧ i.zero = some v ∧ i.bytes ≤ 65536 ∧ z.length = i.size ∧ All2 (VRc φ) z v.cells.toList := by
  unfold okZero at h
  cases hi : Γ.info e with
  | none => rw [hi] at h; cases h
  | some i =>
    simp only [hi] at h
    cases hz : Γ.zcells e with
    | none => rw [hz] at h; cases h
    | some z' =>
      simp only [hz] at h
      obtain ⟨hb, h1⟩ := ifb_eq h
      cases h1
      have hb2 : Nat.ble i.bytes 65536 = true ∧ Nat.beq z.length i.size = true := by
        cases h0 : Nat.ble i.bytes 65536 <;> rw [h0] at hb <;> simp [ifb] at hb ⊢; exact hb
      obtain ⟨v, _, hv, i', hi', hz'⟩ := zcells_sound hΓ (φ := φ) hz
      have hs : Γ.size e = some i.size := by simp [Tab.size, hi]
      obtain ⟨i2, hi2, hs2⟩ := hΓ.size hs
      rw [hi'] at hi2; cases hi2
      have hpi := hΓ.info e i hi
      rw [hi'] at hpi; cases hpi
      exact ⟨i, v, hi', hz', by simpa [ble_iff] using hb2.1, by simpa [beq_iff] using hb2.2, hv⟩

theorem opB_new {o : Oper} {f : T → New} (ho : opB P Γ o = .n f) {t : T} {a : Act} (hx : ∀ x ∈ o.op.operands, OR φ t a.eval x)
    {blk : ABlk} {mk : Nat → AV} (h : f t = some (blk, mk)) : NewOk P φ o a.eval blk mk := by
  obtain ⟨dst, op, type, pos, after, guard⟩ := o
  rw [opB_eq] at ho
  cases op <;> simp only [opB0, Bx.use_eq] at ho <;> simp only [Op.operands] at hx <;> try (cases ho; done)
  case alloc e =>
    split at ho
    · rename_i z hz
      cases ho
      obtain ⟨v, hzv, hv, _⟩ := zcells_sound hΓ (φ := φ) hz
      cases h
      refine NewOk.cells (u := fun g => .pointer (some ⟨g, 0, none⟩)) (cs := v.cells) hv (fun w => ?_) ptr0_sound
      simp [execOp, Instr.alloc, hzv, newVar, newRow]
    · cases ho
  case box e x =>
    cases ho
    obtain ⟨cs, hcs, h1⟩ := onSome_eq h
    cases h1
    refine NewOk.cells (u := fun g => .pointer (some ⟨g, 0, none⟩)) (cs := (a.eval x).cells) (cells_of hcs (hx x (by simp))) (fun w => ?_) ptr0_sound
    simp [execOp, Instr.box, newVar, newRow]
  case buildSlice ty len parts =>
    cases ho
    unfold buildSliceB at h
    split at h
    · rename_i e ht
      split at h
      · rename_i z hz
        obtain ⟨hb, h1⟩ := ifb_eq h
        obtain ⟨l, hl, h2⟩ := onSome_eq h1
        cases h2
        obtain ⟨i, v, hi, hzv, hby, hlen, hv⟩ := okZero_some hΓ (φ := φ) hz
        have hb : ¬ (len * i.size > 2 ^ 24) := by rw [ble_iff] at hb; rw [← hlen]; simpa using hb
        have hps := partsB_sound (φ := φ) (t := t) (ρ := a.eval) (l := parts.toList) (by simpa using hx)
        obtain ⟨cur', hf, hr⟩ := fill_sound (φ := φ) (place' := fun j => some (j * i.size, i.size)) (fun j q hq => by rw [← hlen]; exact hq) _ _ hps hl (rep_sound hv len)
        refine NewOk.cells (u := fun g => .slice (some ⟨g, 0, none⟩) len len) (cs := cur') hr (fun w => ?_) (fun ψ n g hn => slcV_sound ψ n g len len (Nat.le_refl _) hn)
        rw [hlen] at hf
        have hf' : Instr.fill (fun j => some (j * i.size, i.size)) ((Array.range (len * i.size)).map (v.cells[· % v.cells.size]!)) (parts.map fun p => (p.1, a.eval p.2)).toList = some cur' := by simpa using hf
        have hrun : (Instr.buildSlice ty len (parts.map fun p => (p.1, a.eval p.2))).run P w = .ok (.slice (some ⟨w.heap.size, 0, none⟩) len len) (w.alloc (.cells cur' e)) := by
          by_cases h0 : len * i.size = 0
          · rw [h0] at hf'
            rw [show Array.range 0 = #[] from rfl, Array.map_empty] at hf'
            have hf2 : Instr.fill (fun j => some (j * i.size, i.size)) #[] (parts.toList.map fun p => (p.1, a.eval p.2)) = some cur' := by simpa using hf'
            simp [Instr.buildSlice, run_underlying (hΓ.und ht), sizeOf, typeInfo, hi, h0, newRow, show Array.range 0 = #[] from rfl, hf2]
          · exact run_buildSlice w ty e len _ cur' i v (hΓ.und ht) hi hzv hb h0 hf'
        simp only [execOp, Sem.run_bind, hrun, Result.andThen_ok, Sem.run_pure]
      · cases h
    · cases h
  case makeMap ty r =>
    cases r with
    | none =>
      simp only at ho
      cases ho; cases h
      exact NewOk.map fun w => by simp [execOp, Instr.makeMap]
    | some r =>
      simp only at ho
      split at ho
      · rename_i k e ht
        cases ho
        obtain ⟨j, n, hj, h1⟩ := onI_some h
        cases h1
        have hr : OR φ t a.eval r := hx r (by simp)
        unfold OR at hr
        rw [hj] at hr
        have hr : a.eval r = .int j n := hr
        exact NewOk.map fun w => by simp [execOp, Instr.makeMap, run_underlying (hΓ.und ht), hr, asInt, asIntOf]
      · cases ho
  case makeSlice ty l c =>
    cases ho
    unfold makeSliceB at h
    split at h
    · rename_i e ht
      split at h
      · rename_i z hz
        obtain ⟨j, l', hl, h1⟩ := onN_some h
        obtain ⟨k, c', hc, h2⟩ := onN_some h1
        obtain ⟨hb, h3⟩ := ifb_eq h2
        cases h3
        obtain ⟨i, v, hi, hzv, hby, hlen, hv⟩ := okZero_some hΓ (φ := φ) hz
        have hb2 : l' ≤ c' ∧ c' < 65536 := by
          rw [ble_iff, blt_iff] at hb
          by_cases h0 : l' ≤ c'
          · rw [decide_eq_true h0] at hb; exact ⟨h0, by simpa [ifb] using hb⟩
          · rw [decide_eq_false h0] at hb; cases hb
        have hll : OR φ t a.eval l := hx l (by simp)
        have hcc : OR φ t a.eval c := hx c (by simp)
        unfold OR at hll hcc
        rw [hl] at hll
        rw [hc] at hcc
        have hll : a.eval l = .int j l' := hll
        have hcc : a.eval c = .int k c' := hcc
        refine NewOk.cells (u := fun g => .slice (some ⟨g, 0, none⟩) l' c') (rep_sound hv c') (fun w => ?_) (fun ψ n g hn => slcV_sound ψ n g l' c' hb2.1 hn)
        have w1 : IntKind.i64.wrap (l' : Int) = l' := wrap_small (by omega)
        have w2 : IntKind.i64.wrap (c' : Int) = c' := wrap_small (by omega)
        have hbig : ¬ ((i.bytes : Int) * c' > 2 ^ 48) := by
          have : (i.bytes : Int) * c' ≤ 65536 * 65536 := Int.mul_le_mul (by omega) (by omega) (by omega) (by omega)
          omega
        have hrun := run_make (P := P) w ty e i v (hΓ.und ht) hi hzv j k l' c' (by omega) (by omega) (by omega) (by omega)
        simp only [execOp, hll, hcc, Sem.run_bind, hrun, Result.andThen_ok, Sem.run_pure]
        simp [madeCells, hlen]
      · cases h
    · cases h
  case makeInterface => split at ho <;> cases ho
  case makeFunc fn _ _ => cases fn <;> simp only at ho <;> cases ho
  case typeAssert => split at ho <;> cases ho
  case next it is => cases is <;> cases ho
  case call c =>
    obtain ⟨callee, args, argTypes⟩ := c
    cases callee with
    | value f => cases f <;> simp only at ho <;> first | (cases ho; done) | (split at ho <;> cases ho)
    | invoke r n => simp only at ho; cases ho
    | builtin b =>
      simp only at ho
      split at ho <;> first | (cases ho; done) | (split at ho <;> cases ho)

omit hΓ in
/-- What is new is no block of facts. -/
theorem opB_new_plain {o : Oper} {f : T → New} (ho : opB P Γ o = .n f) {t : T} {blk : ABlk} {mk : Nat → AV} (h : f t = some (blk, mk)) : ∀ l, blk ≠ .facts l := by
  intro fl hfl
  subst hfl
  obtain ⟨dst, op, type, pos, after, guard⟩ := o
  rw [opB_eq] at ho
  cases op <;> simp only [opB0, Bx.use_eq] at ho <;> try (cases ho; done)
  case alloc e => split at ho <;> cases ho; cases h
  case box e x => cases ho; obtain ⟨cs, hcs, h1⟩ := onSome_eq h; cases h1
  case buildSlice ty len parts =>
    cases ho
    unfold buildSliceB at h
    split at h
    · split at h
      · obtain ⟨hb, h1⟩ := ifb_eq h
        obtain ⟨l, hl, h2⟩ := onSome_eq h1
        cases h2
      · cases h
    · cases h
  case makeMap ty r =>
    cases r with
    | none => simp only at ho; cases ho; cases h
    | some r =>
      simp only at ho
      split at ho
      · cases ho
        obtain ⟨j, n, hj, h1⟩ := onI_some h
        cases h1
      · cases ho
  case makeSlice ty l c =>
    cases ho
    unfold makeSliceB at h
    split at h
    · split at h
      · obtain ⟨j, l', hl, h1⟩ := onN_some h
        obtain ⟨k, c', hc, h2⟩ := onN_some h1
        obtain ⟨hb, h3⟩ := ifb_eq h2
        cases h3
      · cases h
    · cases h
  case makeInterface => split at ho <;> cases ho
  case makeFunc fn _ _ => cases fn <;> simp only at ho <;> cases ho
  case typeAssert => split at ho <;> cases ho
  case next it is => cases is <;> cases ho
  case call c =>
    obtain ⟨callee, args, argTypes⟩ := c
    cases callee with
    | value f => cases f <;> simp only at ho <;> first | (cases ho; done) | (split at ho <;> cases ho)
    | invoke r n => simp only at ho; cases ho
    | builtin b =>
      simp only at ho
      split at ho <;> first | (cases ho; done) | (split at ho <;> cases ho)
omit hΓ in
/-- What is new is no row of values in whatever order. -/
theorem opB_new_noperm {o : Oper} {f : T → New} (ho : opB P Γ o = .n f) {t : T} {blk : ABlk} {mk : Nat → AV} (h : f t = some (blk, mk)) : ∀ l, blk ≠ .perm l := by
  intro fl hfl
  subst hfl
  obtain ⟨dst, op, type, pos, after, guard⟩ := o
  rw [opB_eq] at ho
  cases op <;> simp only [opB0, Bx.use_eq] at ho <;> try (cases ho; done)
  case alloc e => split at ho <;> cases ho; cases h
  case box e x => cases ho; obtain ⟨cs, hcs, h1⟩ := onSome_eq h; cases h1
  case buildSlice ty len parts =>
    cases ho
    unfold buildSliceB at h
    split at h
    · split at h
      · obtain ⟨hb, h1⟩ := ifb_eq h
        obtain ⟨l, hl, h2⟩ := onSome_eq h1
        cases h2
      · cases h
    · cases h
  case makeMap ty r =>
    cases r with
    | none => simp only at ho; cases ho; cases h
    | some r =>
      simp only at ho
      split at ho
      · cases ho
        obtain ⟨j, n, hj, h1⟩ := onI_some h
        cases h1
      · cases ho
  case makeSlice ty l c =>
    cases ho
    unfold makeSliceB at h
    split at h
    · split at h
      · obtain ⟨j, l', hl, h1⟩ := onN_some h
        obtain ⟨k, c', hc, h2⟩ := onN_some h1
        obtain ⟨hb, h3⟩ := ifb_eq h2
        cases h3
      · cases h
    · cases h
  case makeInterface => split at ho <;> cases ho
  case makeFunc fn _ _ => cases fn <;> simp only at ho <;> cases ho
  case typeAssert => split at ho <;> cases ho
  case next it is => cases is <;> cases ho
  case call c =>
    obtain ⟨callee, args, argTypes⟩ := c
    cases callee with
    | value f => cases f <;> simp only at ho <;> first | (cases ho; done) | (split at ho <;> cases ho)
    | invoke r n => simp only at ho; cases ho
    | builtin b =>
      simp only at ho
      split at ho <;> first | (cases ho; done) | (split at ho <;> cases ho)
end
end Go.Ev
