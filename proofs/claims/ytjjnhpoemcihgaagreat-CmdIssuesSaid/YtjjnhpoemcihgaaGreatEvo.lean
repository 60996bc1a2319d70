/-
  Operations that write: the other map operations; iterators; rows cleared.
-/
import Derived.Test.YtjjnhpoemcihgaaGreatEvn
namespace Go.Ev

theorem putObj_self {w : World} {g : Nat} {o : Obj} (h : w.heap[g]? = some o) : putObj w g o = w := by
  unfold putObj
  have : w.heap.setIfInBounds g o = w.heap := by
    apply Array.ext_getElem?
    intro i
    by_cases e : g = i
    · subst e
      obtain ⟨hl, rfl⟩ := Array.getElem?_eq_some_iff.1 h
      simp [hl]
    · rw [Array.getElem?_setIfInBounds_ne e]
  rw [this]

section
variable {P : Program} {Γ : Tab} (hΓ : TabOk P Γ) {φ : Phi} {base : Nat} {σ : St} {w : World}

theorem len64_sound (n : Nat) : VR φ (len64 n) (goInt n) := rfl

theorem onMapV_some {α : Type} {x : AV} {k : Nat → Option α} {r : α} (h : onMapV x k none = some r) : ∃ b, x = .oth (.map b) ∧ k b = some r := by
  obtain ⟨x, rfl, g1⟩ := onO_some h
  cases x <;> simp only [] at g1 <;> try (cases g1; done)
  exact ⟨_, rfl, g1⟩

theorem setBorn_sound {s : Nat} {v : AV} {uv : Value} (hv : VR φ v uv) : ∀ {es es' : List (AV × AV × Nat)} {cs : List MapEntry}, setBorn s v es = some es' → All2 (ER φ) es cs →
    ∃ i, cs.findIdx? (fun e => (e.born : Int) == (s : Int)) = some i ∧ All2 (ER φ) es' (cs.modify i fun e => { e with val := uv })
  | [], _, [], h, _ => by cases h
  | e :: es, es', c :: cs, h, ha => by
    obtain ⟨h1, h2, h3⟩ := ha.1
    unfold setBorn at h
    cases hb : Nat.beq e.2.2 s with
    | true =>
      rw [hb] at h
      cases h
      rw [beq_iff] at hb
      have : e.2.2 = s := by simpa using hb
      exact ⟨0, by rw [List.findIdx?_cons]; simp [h3, this], ⟨h1, hv, h3⟩, ha.2⟩
    | false =>
      rw [hb] at h
      rw [beq_iff] at hb
      have hne : ¬ e.2.2 = s := by simpa using hb
      obtain ⟨l, hl, h4⟩ := onSome_eq h
      cases h4
      obtain ⟨i, hi, hr⟩ := setBorn_sound hv hl ha.2
      refine ⟨i + 1, ?_, ha.1, hr⟩
      have hbe : ((c.born : Int) == (s : Int)) = false := by rw [h3]; simp; omega
      rw [List.findIdx?_cons, hbe, hi]; rfl

theorem entryStoreA_sound (hm : MR base φ σ w) {m s v : AV} {um us uv : Value} {τ : St} (h : entryStoreA σ m s v = some τ) (h1 : VR φ m um) (h2 : VR φ s us) (h3 : VR φ v uv) (t : TypeId) :
    ∃ w', (Instr.entryStore t um us uv).run P w = .ok () w' ∧ Stp base φ σ w φ τ w' := by
  obtain ⟨b, rfl, g1⟩ := onMapV_some h
  obtain ⟨j, n, rfl, g2⟩ := onN_some g1
  obtain ⟨es, clock, hb, g3⟩ := onMap_some g2
  obtain ⟨es', he, g4⟩ := onSome_eq g3
  cases g4
  obtain ⟨g, hp, rfl⟩ := h1
  have h2 : us = .int j (n : Int) := h2
  subst h2
  obtain ⟨_, ces, hg, hes⟩ := hm.mapAt hb hp
  obtain ⟨i, hi, hr⟩ := setBorn_sound h3 he hes
  refine ⟨putObj w g (.map (ces.modify i fun e => { e with val := uv }) clock), ?_, mapPut_sound hm hb hp (by rw [Array.toList_modify]; exact hr)⟩
  have hi' : ces.findIdx? (fun e => (e.born : Int) == (n : Int)) = some i := by obtain ⟨ces⟩ := ces; simpa using hi
  simp [Instr.entryStore, run_getMap P hg, asInt, asIntOf, hi', run_putMap _ hg]

include hΓ
theorem mapEntryB_sound (hm : MR base φ σ w) {t : TypeId} {m k v : AV} {um uk : Value} {τ : St} (h : (mapEntryB P Γ t).run σ m k = some (v, τ)) (h1 : VR φ m um) (h2 : VR φ k uk) :
    ∃ u w', (Instr.mapEntry t um uk).run P w = .ok u w' ∧ VR φ v u ∧ Stp base φ σ w φ τ w' := by
  unfold mapEntryB at h
  split at h
  · rename_i kt et ht
    split at h
    · rename_i z hz
      obtain ⟨i, zv, hi, hzv, rfl⟩ := hΓ.zero hz
      have hzero : ∀ w, (zeroValue et).run P w = .ok zv w := fun w => by simp [zeroValue, typeInfo, hi, hzv]
      obtain ⟨b, rfl, g1⟩ := onMapV_some h
      obtain ⟨hok, g2⟩ := ifb_eq g1
      obtain ⟨es, clock, hb, g3⟩ := onMap_some g2
      obtain ⟨r, hr, g4⟩ := onSome_eq g3
      obtain ⟨g, hp, rfl⟩ := h1
      obtain ⟨_, ces, hg, hes⟩ := hm.mapAt hb hp
      obtain ⟨d, hd⟩ := keyOk_und hok
      have hck := keyOkB_sound hΓ 10000 kt k uk false w hok h2
      have hf := findAt hΓ hm h2 hd hes hr
      cases r with
      | none =>
        obtain ⟨v', hv', g5⟩ := onSome_eq (show onSome (tup2 (ofV zv) (len64 clock)) _ none = _ from g4)
        cases g5
        have hf : (Instr.findKey kt uk ces.toList).run P w = .ok none w := hf
        refine ⟨_, putObj w g (.map (ces.push { key := uk, val := zv, born := clock }) (clock + 1)), ?_, tup2_sound hv' (VR_ofV φ zv) (len64_sound clock),
          mapPut_sound hm hb hp (by simpa using hes.append (l' := [(k, ofV zv, clock)]) (m' := [{ key := uk, val := zv, born := clock }]) ⟨⟨h2, VR_ofV φ zv, rfl⟩, trivial⟩)⟩
        simp [Instr.mapEntry, run_underlying (hΓ.und ht), run_getMap P hg, hck, hf, hzero, run_putMap _ hg]
      | some q =>
        obtain ⟨j, v0, born⟩ := q
        obtain ⟨e, he, g5⟩ := onSome_eq g4
        obtain ⟨hs, g6⟩ := ifb_eq g5
        obtain ⟨v', hv', g7⟩ := onSome_eq g6
        cases g7
        obtain ⟨u, c, f1, f2, f3, f4, f5, e', he', f6⟩ := hf
        rw [nth_eq] at he
        simp only at he
        rw [he'] at he; cases he
        have hstay := keyStays (P := P) hs f6.1 h2 w
        refine ⟨_, putObj w g (.map (ces.modify j fun e => { e with key := uk }) clock), ?_, tup2_sound hv' f2 (len64_sound born), mapPut_sound hm hb hp ?_⟩
        · simp [Instr.mapEntry, run_underlying (hΓ.und ht), run_getMap P hg, hck, f1, f3, f5, hstay, run_putMap _ hg]
        · rw [Array.toList_modify]
          refine setN_sound hes fun c' hc' => ?_
          rw [Array.getElem?_toList, f3] at hc'
          cases hc'
          exact ⟨h2, by rw [f4]; exact f2, f5⟩
    · cases h
  · cases h

theorem deleteB_sound (hm : MR base φ σ w) {t : TypeId} {m k : AV} {um uk : Value} {τ : St} (h : (deleteB P Γ t).run σ m k = some τ) (h1 : VR φ m um) (h2 : VR φ k uk) (t2 ty : TypeId) :
    ∃ w', (Builtin.delete_ #[t, t2] ty #[um, uk]).run P w = .ok (.tuple #[]) w' ∧ Stp base φ σ w φ τ w' := by
  unfold deleteB at h
  split at h
  · rename_i kt et ht
    obtain ⟨hok, g1⟩ := ifb_eq h
    obtain ⟨x, rfl, g2⟩ := onO_some g1
    cases x <;> simp only [] at g2 <;> try (cases g2; done)
    · rename_i b
      obtain ⟨es, clock, hb, g3⟩ := onMap_some g2
      obtain ⟨r, hr, g4⟩ := onSome_eq g3
      obtain ⟨g, hp, rfl⟩ := h1
      obtain ⟨_, ces, hg, hes⟩ := hm.mapAt hb hp
      obtain ⟨d, hd⟩ := keyOk_und hok
      have hck := keyOkB_sound hΓ 10000 kt k uk ces.isEmpty w hok h2
      have hf := findAt hΓ hm h2 hd hes hr
      cases r with
      | none =>
        cases g4
        have hf : (Instr.findKey kt uk ces.toList).run P w = .ok none w := hf
        have hput := run_putMap (P := P) (.map ces clock) hg
        rw [putObj_self hg] at hput
        exact ⟨w, by simp [Builtin.delete_, run_underlying (hΓ.und ht), run_getMap P hg, hck, hf, hput], Stp.refl hm⟩
      | some q =>
        obtain ⟨j, v0, born⟩ := q
        cases g4
        obtain ⟨u, c, f1, f2, f3, f4, f5, e', he', f6⟩ := hf
        refine ⟨putObj w g (.map (ces.eraseIdxIfInBounds j) clock), ?_, mapPut_sound hm hb hp ?_⟩
        · simp [Builtin.delete_, run_underlying (hΓ.und ht), run_getMap P hg, hck, f1, run_putMap _ hg]
        · have hlt : j < ces.size := (Array.getElem?_eq_some_iff.1 f3).1
          simp only [Array.eraseIdxIfInBounds, hlt, dif_pos, Array.toList_eraseIdx]
          exact delN_sound hes
    · cases g2
      have h1 : um = .map none := h1
      subst h1
      have hck := keyOkB_sound hΓ 10000 kt k uk true w hok h2
      exact ⟨w, by simp [Builtin.delete_, run_underlying (hΓ.und ht), hck], Stp.refl hm⟩
  · cases h

theorem rangeB_sound (hm : MR base φ σ w) {t : TypeId} {x v : AV} {u : Value} {τ : St} (h : (rangeB Γ t).run σ x = some (v, τ)) (hx : VR φ x u) :
    ∃ z w' ψ, (Instr.range t u).run P w = .ok z w' ∧ VR ψ v z ∧ Stp base φ σ w ψ τ w' := by
  unfold rangeB at h
  split at h
  · rename_i kt et ht
    obtain ⟨y, rfl, g1⟩ := onO_some h
    cases y <;> simp only [] at g1 <;> try (cases g1; done)
    · rename_i b
      obtain ⟨es, clock, hb, g2⟩ := onMap_some g1
      obtain ⟨n, hn, hlt, he⟩ := newBlk_some g2
      cases he
      obtain ⟨g, hp, rfl⟩ := hx
      obtain ⟨_, ces, hg, hes⟩ := hm.mapAt hb hp
      have hne : b ≠ n := by intro e; subst e; rw [hm.fresh b (by omega)] at hp; cases hp
      refine ⟨.pointer (some ⟨w.heap.size, 0, none⟩), w.alloc (.mapIter (some g) clock #[] clock), φ.set n (w.heap.size, 0) 0, ?_, ptr0_sound _ _ _ (Phi.set_same _ _ _ _), hm.new hn hlt _ (.mapIter _ _ _ _) ?_⟩
      · simp [Instr.range, run_underlying (hΓ.und ht), run_getMap P hg]
      · intro g1 o1 hp1
        rw [Phi.set_same] at hp1; cases hp1
        exact ⟨rfl, some g, #[], heap_alloc_new w _, SeenR.nil, g, by rw [Phi.set_ne hne]; exact hp, rfl⟩
    · obtain ⟨n, hn, hlt, he⟩ := newBlk_some g1
      cases he
      have hx : u = .map none := hx
      subst hx
      refine ⟨.pointer (some ⟨w.heap.size, 0, none⟩), w.alloc (.mapIter none 0 #[] 0), φ.set n (w.heap.size, 0) 0, ?_, ptr0_sound _ _ _ (Phi.set_same _ _ _ _), hm.new hn hlt _ (.mapIter _ _ _ _) ?_⟩
      · simp [Instr.range, run_underlying (hΓ.und ht)]
      · intro g1 o1 hp1
        rw [Phi.set_same] at hp1; cases hp1
        exact ⟨rfl, none, #[], heap_alloc_new w _, SeenR.nil, rfl⟩
  · cases h

theorem clearB_sound (hm : MR base φ σ w) {t : TypeId} {x : AV} {u : Value} {τ : St} (h : (clearB Γ t).run σ x = some τ) (hx : VR φ x u) (ty : TypeId) :
    ∃ w', (Builtin.clear_ #[t] ty #[u]).run P w = .ok (.tuple #[]) w' ∧ Stp base φ σ w φ τ w' := by
  unfold clearB at h
  split at h
  · rename_i e ht
    split at h
    · rename_i z hz
      obtain ⟨y, rfl, g1⟩ := onO_some h
      obtain ⟨v, hzv, hv, _⟩ := zcells_sound hΓ (φ := φ) hz
      cases y <;> simp only [] at g1 <;> try (cases g1; done)
      · rename_i b off len cap ex
        obtain ⟨g, o, c, hp, rfl, _⟩ := hx
        cases len with
        | zero => cases g1; exact ⟨w, by simp [Builtin.clear_, run_underlying (hΓ.und ht)], Stp.refl hm⟩
        | succ len =>
          obtain ⟨hfl, g2⟩ := ifb_eq g1
          have hr := rep_sound hv (len + 1)
          have hzl : z.length = v.cells.size := by rw [hv.length]; simp
          obtain ⟨cur, e', hg, hsz, hne, hst⟩ := wrCells_sound hm g2 hp hr
          refine ⟨_, ?_, hst⟩
          have hone : ∀ u ∈ ((Array.range ((len + 1) * z.length)).map (v.cells[· % v.cells.size]!)).toList, u.oneCell' = true := by
            refine flats_one (φ := φ) ?_ hr
            have : ∀ n, flats (rep z n) = true := by
              intro n
              induction n with
              | zero => rfl
              | succ n ih =>
                have : ∀ (l m : List Cell), flats l = true → flats m = true → flats (l ++ m) = true := by
                  intro l
                  induction l with
                  | nil => intro m _ h; exact h
                  | cons a l ih => intro m h1 h2; obtain ⟨h3, h4⟩ := ifb_and h1; simp [flats, h3, ih m h4 h2, ifb]
                exact this _ _ hfl ih
            exact this _
          have hrun := run_storeCells_spliced P hg hsz hone
          have hzc : Builtin.zeroCells v.cells (len + 1) = (Array.range ((len + 1) * z.length)).map (v.cells[· % v.cells.size]!) := by
            rw [hzl]; rfl
          simp [Builtin.clear_, run_underlying (hΓ.und ht), hzv, hzc]
          simpa using congrArg (fun r => r.andThen fun _ w' => Result.ok (Value.tuple #[]) w') hrun
      · cases g1; cases hx; exact ⟨w, by simp [Builtin.clear_, run_underlying (hΓ.und ht)], Stp.refl hm⟩
      · cases g1; obtain ⟨a, c, rfl⟩ := hx
        exact ⟨w, by cases a <;> simp [Builtin.clear_, run_underlying (hΓ.und ht)], Stp.refl hm⟩
    · cases h
  · rename_i kt et ht
    obtain ⟨y, rfl, g1⟩ := onO_some h
    cases y <;> simp only [] at g1 <;> try (cases g1; done)
    · rename_i b
      obtain ⟨es, clock, hb, g2⟩ := onMap_some g1
      cases g2
      obtain ⟨g, hp, rfl⟩ := hx
      obtain ⟨_, ces, hg, hes⟩ := hm.mapAt hb hp
      exact ⟨putObj w g (.map #[] clock), by simp [Builtin.clear_, run_underlying (hΓ.und ht), run_getMap P hg, run_putMap _ hg], mapPut_sound hm hb hp trivial⟩
    · cases g1; cases hx; exact ⟨w, by simp [Builtin.clear_, run_underlying (hΓ.und ht)], Stp.refl hm⟩
  · cases h
end
end Go.Ev
