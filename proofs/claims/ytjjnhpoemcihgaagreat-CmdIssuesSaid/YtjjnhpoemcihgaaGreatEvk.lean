/-
  Composites, conversions; every quiet operation.
-/
import Derived.Test.YtjjnhpoemcihgaaGreatEvj
namespace Go.Ev

/-! ### filling -/
theorem foldl_set (off : Nat) : ∀ (us : List Value) (k : Nat) (cur : Array Value), off + k + us.length ≤ cur.size →
    ((us.zipIdx k).foldl (fun cs (p : Value × Nat) => cs.setIfInBounds (off + p.2) p.1) cur).size = cur.size ∧
    ∀ i, ((us.zipIdx k).foldl (fun cs (p : Value × Nat) => cs.setIfInBounds (off + p.2) p.1) cur)[i]? = if off + k ≤ i ∧ i < off + k + us.length then us[i - (off + k)]? else cur[i]?
  | [], k, cur, _ => by
    refine ⟨rfl, fun i => ?_⟩
    rw [if_neg (by simp only [List.length_nil]; omega)]
    rfl
  | u :: us, k, cur, h => by
    simp only [List.length_cons] at h
    have ih := foldl_set off us (k + 1) (cur.setIfInBounds (off + k) u) (by simp; omega)
    simp only [List.zipIdx_cons, List.foldl_cons]
    refine ⟨by rw [ih.1]; simp, fun i => ?_⟩
    rw [ih.2 i]
    simp only [List.length_cons]
    by_cases h1 : off + (k + 1) ≤ i ∧ i < off + (k + 1) + us.length
    · rw [if_pos h1, if_pos (by omega)]
      rw [show i - (off + k) = (i - (off + (k + 1))) + 1 by omega]
      simp
    · rw [if_neg h1]
      by_cases h2 : i = off + k
      · subst h2
        rw [if_pos (by omega)]
        have hlt : off + k < cur.size := by omega
        simp [hlt]
      · rw [if_neg (by omega), Array.getElem?_setIfInBounds_ne (by omega)]

theorem cells_of {φ : Phi} {x : AV} {u : Value} {cs : List Cell} (h : x.cells = some cs) (hx : VR φ x u) : All2 (VRc φ) cs u.cells.toList := by
  cases x with
  | t l => cases h
  | a l =>
    cases h
    obtain ⟨us, rfl, hx⟩ := hx
    exact hx
  | c x =>
    obtain ⟨hf, h⟩ := ifb_eq (show ifb x.flat (some [x]) none = some cs from h)
    cases h
    have h1 : u.oneCell' = true := flat_one hf hx
    have : u.cells = #[u] := by cases u <;> first | rfl | cases h1
    rw [this]
    exact ⟨hx, trivial⟩

theorem fill_sound {φ : Phi} {place place' : Nat → Option (Nat × Nat)} (hpl : ∀ i q, place i = some q → place' i = some q) : ∀ (parts : List (Nat × AV)) (cparts : List (Nat × Value)) {cells r : List Cell} {cur : Array Value},
    All2 (fun (p : Nat × AV) (q : Nat × Value) => p.1 = q.1 ∧ VR φ p.2 q.2) parts cparts → fillA place cells parts = some r → All2 (VRc φ) cells cur.toList →
    ∃ cur', Instr.fill place' cur cparts = some cur' ∧ All2 (VRc φ) r cur'.toList
  | [], [], cells, r, cur, _, h, hc => by
    cases cells <;> (cases h; exact ⟨cur, rfl, hc⟩)
  | (i, x) :: parts, (j, u) :: cparts, cells, r, cur, hp, h, hc => by
    obtain ⟨⟨hij, hxu⟩, hrest⟩ := hp
    have hij : i = j := hij
    subst hij
    have hxu : VR φ x u := hxu
    have h : onSome (place i) (fun q => onSome x.cells (fun cs => ifb (Nat.beq cs.length q.2) (onSome (setAll q.1 cells cs) (fun l => fillA place l parts) none) none) none) none = some r := by
      cases cells <;> exact h
    obtain ⟨⟨off, size⟩, hq, h⟩ := onSome_eq h
    obtain ⟨cs, hcs, h⟩ := onSome_eq h
    obtain ⟨hlen, h⟩ := ifb_eq h
    obtain ⟨l, hl, h⟩ := onSome_eq h
    have hcu := cells_of hcs hxu
    have hlen : cs.length = size := by rw [beq_iff] at hlen; simpa using hlen
    have hul : u.cells.size = size := by rw [← hlen, hcu.length]; simp
    have hcl : cells.length = cur.size := by have := hc.length; simpa using this
    have hbound : off + u.cells.size ≤ cur.size := by
      by_cases hne : cs = []
      · subst hne
        have := setAll_nil hl
        simp at hlen
        omega
      · have := (setAll_some hne hl).2.1
        omega
    have hf := foldl_set off u.cells.toList 0 cur (by simpa using hbound)
    have hzip : (u.cells.zipIdx.foldl (fun cs (x : Value × Nat) => cs.setIfInBounds (off + x.2) x.1) cur) = (u.cells.toList.zipIdx.foldl (fun cs (p : Value × Nat) => cs.setIfInBounds (off + p.2) p.1) cur) := by
      rw [← Array.foldl_toList, Array.toList_zipIdx]
    have hnew : All2 (VRc φ) l (u.cells.toList.zipIdx.foldl (fun cs (p : Value × Nat) => cs.setIfInBounds (off + p.2) p.1) cur).toList := by
      by_cases hne : cs = []
      · subst hne
        have := (setAll_nil hl).2
        subst this
        have : u.cells.toList = [] := by cases hh : u.cells.toList with
          | nil => rfl
          | cons => rw [hh] at hcu; exact hcu.elim
        rw [this]
        exact hc
      · obtain ⟨e1, e2, e3⟩ := setAll_some hne hl
        have hlr : (u.cells.toList.zipIdx.foldl (fun cs (p : Value × Nat) => cs.setIfInBounds (off + p.2) p.1) cur).toList.length = cur.size := by
          rw [Array.length_toList]; exact hf.1
        refine All2.of_get (by rw [hlr, e1]; exact hcl) fun i y hy => ?_
        rw [e3 i] at hy
        rw [Array.getElem?_toList, hf.2 i]
        by_cases hi : off ≤ i ∧ i < off + cs.length
        · rw [if_pos hi] at hy
          rw [if_pos (by rw [Array.length_toList]; omega)]
          exact hcu.get hy
        · rw [if_neg hi] at hy
          rw [if_neg (by rw [Array.length_toList]; omega)]
          obtain ⟨b, hb, hr⟩ := hc.get hy
          exact ⟨b, by simpa using hb, hr⟩
    obtain ⟨cur', hfill, hr⟩ := fill_sound hpl parts cparts hrest h hnew
    refine ⟨cur', ?_, hr⟩
    have hcond : (u.cells.size ≠ size || off + u.cells.size > cur.size) = false := by
      simp [hul]; omega
    simp only [Instr.fill, hpl i _ hq, hcond, Bool.false_eq_true, if_false]
    rw [hzip]
    exact hfill

section
variable {P : Program} {Γ : Tab} (hΓ : TabOk P Γ) {φ : Phi} {base : Nat} {σ : St} {w : World}

theorem VR_cells_zero {z : AV} {v : Value} {cs : List Cell} (hz : z = ofV v) (h : z.cells = some cs) : All2 (VRc φ) cs v.cells.toList := by
  subst hz
  exact cells_of h (VR_ofV φ v)

include hΓ
theorem zcells_sound {t : TypeId} {z : List Cell} (h : Γ.zcells t = some z) : ∃ v, (∀ w, (zeroValue t).run P w = .ok v w) ∧ All2 (VRc φ) z v.cells.toList ∧ ∃ i, P.info? t = some i ∧ i.zero = some v := by
  unfold Tab.zcells at h
  cases hz : Γ.zero t with
  | none => rw [hz] at h; cases h
  | some x =>
    rw [hz] at h
    obtain ⟨i, v, hi, hv, rfl⟩ := hΓ.zero hz
    exact ⟨v, fun w => by simp [zeroValue, typeInfo, hi, hv], VR_cells_zero rfl h, i, hi, hv⟩

theorem run_places : ∀ {fs : List Field} {pl : List (Nat × Nat)} (w : World), placesS Γ fs = some pl →
    (fs.mapM (m := Sem) fun f => do pure (f.offset, ← sizeOf f.type)).run P w = .ok pl w
  | [], pl, w, h => by cases h; rfl
  | f :: fs, pl, w, h => by
    unfold placesS at h
    cases hs : Γ.size f.type with
    | none => rw [hs] at h; cases h
    | some n =>
      simp only [hs] at h
      cases hp : placesS Γ fs with
      | none => rw [hp] at h; cases h
      | some l =>
        rw [hp] at h
        cases h
        obtain ⟨i, hi, rfl⟩ := hΓ.size hs
        have ih := run_places w hp
        have hsz : (sizeOf f.type).run P w = .ok i.size w := by simp [sizeOf, typeInfo, hi]
        simp only [List.mapM_cons, Sem.run_bind, hsz, Result.andThen_ok, ih, Sem.run_pure]

theorem buildB_sound {t : TypeId} {parts : List (Nat × AV)} {cparts : Array (Nat × Value)} {r : AV} (h : (buildB Γ t).run parts = some r)
    (hp : All2 (fun (p : Nat × AV) (q : Nat × Value) => p.1 = q.1 ∧ VR φ p.2 q.2) parts cparts.toList) (w : World) :
    ∃ z, (Instr.build t cparts).run P w = .ok z w ∧ VR φ r z := by
  unfold buildB at h
  cases hz : Γ.zcells t with
  | none => rw [hz] at h; cases h
  | some zero =>
    obtain ⟨v, hv, hcv, _⟩ := zcells_sound hΓ (φ := φ) hz
    simp only [hz] at h
    split at h
    · rename_i fs ht
      split at h
      · rename_i pl hpl
        obtain ⟨l, hl, h1⟩ := onSome_eq h
        cases h1
        have hm : (fs.mapM (m := Sem) fun f => do pure (f.offset, ← sizeOf f.type)).run P w = .ok pl.toArray w := by
          rw [Array.mapM_eq_mapM_toList]
          simp only [Sem.run_map, run_places hΓ w hpl, Result.andThen_ok]
        obtain ⟨cur', hf, hr⟩ := fill_sound (φ := φ) (place' := fun i => pl.toArray[i]?) (fun i q hq => by rw [nth_eq] at hq; simpa using hq) parts cparts.toList hp hl hcv
        refine ⟨.agg cur', ?_, _, rfl, hr⟩
        have hm' : (Array.mapM (m := Sem) (fun f => Prod.mk f.offset <$> sizeOf f.type) fs).run P w = .ok pl.toArray w := by simpa using hm
        have hf' : Instr.fill (fun i => pl[i]?) v.cells cparts.toList = some cur' := by simpa using hf
        simp [Instr.build, hv, run_underlying (hΓ.und ht), hm', hf']
      · cases h
    · rename_i k e ht
      split at h
      · rename_i n hs
        obtain ⟨l, hl, h1⟩ := onSome_eq h
        cases h1
        obtain ⟨i, hi, rfl⟩ := hΓ.size hs
        obtain ⟨cur', hf, hr⟩ := fill_sound (φ := φ) (place' := fun j => some (j * i.size, i.size)) (fun i q hq => hq) parts cparts.toList hp hl hcv
        refine ⟨.agg cur', ?_, _, rfl, hr⟩
        simp [Instr.build, hv, run_underlying (hΓ.und ht), sizeOf, typeInfo, hi, hf]
      · cases h
    · cases h

omit hΓ in
theorem bytesOf_sound : ∀ {l : List Cell} {us : List Value} {s : List Nat}, bytesOf l = some s → All2 (VRc φ) l us →
    ∃ ns : List Int, us = ns.map (Value.int .u8) ∧ s = ns.map Int.toNat ∧ (∀ n ∈ ns, 0 ≤ n ∧ n < 256)
  | [], [], s, h, _ => by cases h; exact ⟨[], rfl, rfl, by simp⟩
  | x :: l, u :: us, s, h, hx => by
    obtain ⟨n, hn, h⟩ := onSome_eq h
    obtain ⟨s', hs, h⟩ := onSome_eq h
    cases h
    obtain ⟨ns, rfl, rfl, hb⟩ := bytesOf_sound hs hx.2
    unfold byteOf1 at hn
    obtain ⟨k, m, hxe, h1⟩ := onI_some hn
    cases hxe
    have hu : u = .int k m := hx.1
    cases k <;> simp only [] at h1 <;> try (cases h1; done)
    cases m with
    | negSucc m => cases h1
    | ofNat m =>
      obtain ⟨hlt, h2⟩ := ifb_eq h1
      cases h2
      rw [Nat.blt_eq] at hlt
      refine ⟨(n : Int) :: ns, by rw [hu]; rfl, rfl, ?_⟩
      intro z hz
      cases hz with
      | head => omega
      | tail _ hz => exact hb z hz

omit hΓ in
theorem nats_push (ns : List Int) (hb : ∀ n ∈ ns, 0 ≤ n ∧ n < 256) : ∀ s : ByteArray, nats (ns.foldl (fun r n => r.push (UInt8.ofNat n.toNat)) s) = nats s ++ ns.map Int.toNat := by
  induction ns with
  | nil => intro s; simp
  | cons n ns ih =>
    intro s
    rw [List.foldl_cons, ih (fun m hm => hb m (by simp [hm]))]
    have h := hb n (by simp)
    have e : nats (s.push (UInt8.ofNat n.toNat)) = nats s ++ [n.toNat] := by
      unfold nats
      rw [ByteArray.data_push, Array.toList_push, List.map_append]
      congr 1
      simp
      omega
    rw [e]
    simp

theorem convB_sound (hm : MR base φ σ w) {s d : TypeId} {x r : AV} {u : Value} (h : (convB Γ s d).run σ x = some r) (hx : VR φ x u) :
    ∃ z, (convert s d u).run P w = .ok z w ∧ VR φ r z := by
  unfold convB at h
  split at h
  · rename_i k hd
    split at h
    · rename_i ds hs
      rw [Bx.use_eq] at h
      obtain ⟨j, c, l, h1, h2⟩ := onL_some (show x.onL (fun _ c l => onSome (mkSy (factsOf σ) k c l) (fun v => some v) ((convS k).run (factsOf σ) c l)) none = some r from h)
      rw [h2 φ u hx]
      refine ⟨.int k (k.wrap (c + evalL φ.ρ l)), by simp [convert, run_underlying (hΓ.und hs), run_underlying (hΓ.und hd), Conv.intToInt], ?_⟩
      cases hk : mkSy (factsOf σ) k c l with
      | some v => rw [hk] at h1; cases h1; exact mkSy_sound hm.factsHold hk
      | none =>
        rw [hk] at h1
        cases k <;> try (cases h1; done)
        · obtain ⟨h3, h4⟩ := mkSy'_sound hm.factsHold (show mkSy' (factsOf σ) .i64 (Int.sub c 18446744073709551616) l = some r from h1)
          rw [show IntKind.i64.wrap (c + evalL φ.ρ l) = IntKind.i64.wrap (Int.sub c 18446744073709551616 + evalL φ.ρ l) from by
            show IntKind.i64.wrap _ = IntKind.i64.wrap (c - 18446744073709551616 + _)
            simp only [IntKind.wrap, IntKind.signed, IntKind.bits]; simp; omega, h4]
          exact h3
        · obtain ⟨h3, h4⟩ := mkSy'_sound hm.factsHold (show mkSy' (factsOf σ) .u64 (Int.add c 18446744073709551616) l = some r from h1)
          rw [show IntKind.u64.wrap (c + evalL φ.ρ l) = IntKind.u64.wrap (Int.add c 18446744073709551616 + evalL φ.ρ l) from by
            show IntKind.u64.wrap _ = IntKind.u64.wrap (c + 18446744073709551616 + _)
            simp only [IntKind.wrap, IntKind.signed, IntKind.bits]; simp; omega, h4]
          exact h3
    · cases h
  · rename_i hd
    split at h
    · rename_i hs
      rcases onS_or h with ⟨b, rfl, h1⟩ | h1
      · cases h1
        obtain ⟨b, rfl, rfl⟩ := hx
        exact ⟨.string b, by simp [convert, run_underlying (hΓ.und hs), run_underlying (hΓ.und hd)], _, rfl, rfl⟩
      · obtain ⟨x, rfl, h2⟩ := onO_some h1
        clear h h1
        cases x <;> simp only [] at h2 <;> try (cases h2; done)
        cases h2
        rename_i i
        have hx : u = .string (φ.str i) := hx
        subst hx
        exact ⟨.string (φ.str i), by simp [convert, run_underlying (hΓ.und hs), run_underlying (hΓ.und hd)], rfl⟩
    · rename_i e hs
      split at h
      · rename_i he
        obtain ⟨x, rfl, h1⟩ := onO_some h
        clear h
        cases x <;> simp only [] at h1 <;> try (cases h1; done)
        · rename_i b off n cap ex
          obtain ⟨l, hl, h2⟩ := onSome_eq h1
          obtain ⟨bs, hbs, h3⟩ := onSome_eq h2
          cases h3
          obtain ⟨g, o, c, hp, rfl, _⟩ := hx
          obtain ⟨e', l0, rel, old, hb, hl⟩ := onCells_some hl
          obtain ⟨cur, hg, hc⟩ := hm.cellsAt hb hp
          obtain ⟨hlen, us, hul, hv, hcu⟩ := hc.sub hl
          obtain ⟨ns, rfl, rfl, hnb⟩ := bytesOf_sound hbs hv
          have hload := run_loadCells_list (P := P) w ⟨g, o + off, none⟩ (ns.map (Value.int .u8)) (fun j u hu => by
            rw [Addr.add_lit]
            simp [World.cell?, hg, hcu j u hu])
          rw [hul] at hload
          refine ⟨_, (run_convert_bytes_string w s d e _ n c (hΓ.und hs) (hΓ.und he) (hΓ.und hd)).trans (run_bytesToString w _ n c ns hload), _, rfl, ?_⟩
          rw [nats_push ns hnb]
          rfl
        · cases h1
          have hx : u = .slice none 0 0 := hx
          subst hx
          refine ⟨.string .empty, (run_convert_bytes_string w s d e _ 0 0 (hΓ.und hs) (hΓ.und he) (hΓ.und hd)).trans ?_, _, rfl, rfl⟩
          simp [Conv.bytesToString]
      · cases h
    · cases h
  · cases h

end

end Go.Ev
