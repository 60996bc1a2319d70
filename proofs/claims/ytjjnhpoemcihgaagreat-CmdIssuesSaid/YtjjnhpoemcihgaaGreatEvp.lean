/-
  append, copy, and bytes that become a string.
-/
import Derived.Test.YtjjnhpoemcihgaaGreatEvo
namespace Go.Ev

theorem growBy_le (need : Nat) : ∀ (r c : Nat), Builtin.growBy need r c ≤ max c (need + (need + 768) / 4)
  | 0, c => by simp only [Builtin.growBy]; omega
  | r + 1, c => by
    simp only [Builtin.growBy]
    split
    · omega
    · have := growBy_le need r (c + (c + 768) / 4)
      omega
theorem nextslicecap_le {need c : Nat} (h : c < need) : Builtin.nextslicecap need c ≤ 2 * need + 1000 := by
  unfold Builtin.nextslicecap
  split
  · omega
  · split
    · omega
    · have := growBy_le need 4 c
      omega

section
variable {P : Program} {Γ : Tab} (hΓ : TabOk P Γ) {φ : Phi} {base : Nat} {σ : St} {w : World}

theorem run_append_row {w : World} {t tx ty e : TypeId} {i : TypeInfo} (ht : P.underlying t = some (.slice e)) (hi : P.info? e = some i) {g k sLen sCap n : Nat} {x : Value} {news : List Value} (hs : Src P i.size tx x n news w)
    (hroom : sLen + n ≤ sCap) {cur : Array Value} {e' : TypeId} (hg : w.heap[g]? = some (.cells cur e' (0, 0))) (hfit : k + sLen * i.size + news.length ≤ cur.size) :
    (Builtin.append_ #[t, tx] ty #[.slice (some ⟨g, k, none⟩) sLen sCap, x]).run P w = .ok (.slice (some ⟨g, k, none⟩) (sLen + n) sCap) (w.setRow g (spliced cur (k + sLen * i.size) news)) := by
  have hst := run_storeCells_spliced P hg hfit hs.one
  rcases hs.kind with ⟨e', hk⟩ | hk <;> simp [Builtin.append_, run_underlying ht, run_underlying hk, sizeOf, typeInfo, hi, hs.len, hroom, hs.cells, Addr.add_lit] <;> simpa using congrArg (fun r => r.andThen fun _ w' => Result.ok (Value.slice (some ⟨g, k, none⟩) (sLen + n) sCap) w') hst

theorem run_append_none {w : World} {t tx ty e : TypeId} {i : TypeInfo} (ht : P.underlying t = some (.slice e)) (hi : P.info? e = some i) {a : Option Addr} {sLen sCap : Nat} {x : Value} {news : List Value} (hs : Src P i.size tx x 0 news w)
    (hroom : sLen ≤ sCap) : (Builtin.append_ #[t, tx] ty #[.slice a sLen sCap, x]).run P w = .ok (.slice a sLen sCap) w := by
  have hl := hs.newsLen
  have : news = [] := by simpa using hl
  subst this
  rcases hs.kind with ⟨e', hk⟩ | hk <;> cases a <;> simp [Builtin.append_, run_underlying ht, run_underlying hk, sizeOf, typeInfo, hi, hs.len, hroom, hs.cells, storeCells]

theorem byteC_sound : ∀ {l : List Nat} {bs : List UInt8}, bs.map UInt8.toNat = l → All2 (VRc φ) (l.map byteC) (bs.map fun b => Value.int .u8 b.toNat)
  | [], [], _ => trivial
  | _ :: _, b :: bs, h => by
    simp only [List.map_cons, List.cons.injEq] at h
    exact ⟨by rw [← h.1]; rfl, byteC_sound h.2⟩
  | [], _ :: _, h => by simp at h

theorem cellsOfA_sound (hm : MR base φ σ w) {size n : Nat} {x : AV} {l : List Cell} {u : Value} {tx : TypeId} (h : cellsOfA σ size x = some (n, l)) (hfl : flats l = true) (hx : VR φ x u)
    (hk : (∃ e', P.underlying tx = some (.slice e')) ∨ P.underlying tx = some .string) : ∃ news, Src P size tx u n news w ∧ All2 (VRc φ) l news := by
  have slice : ∀ (y : Oth), x = .oth y → (match y with
    | .nils | .emp => some (0, [])
    | .slc b off n _ _ => onSome (rdCells σ b off (Nat.mul n size)) (fun l => some (n, l)) none
    | _ => none) = some (n, l) → ∃ news, Src P size tx u n news w ∧ All2 (VRc φ) l news := by
    intro y hy h1
    subst hy
    cases y <;> simp only [] at h1 <;> try (cases h1; done)
    · rename_i b off n' cap ex
      obtain ⟨l', hl, h2⟩ := onSome_eq h1
      cases h2
      obtain ⟨e, l0, rel, old, hb, hl⟩ := onCells_some hl
      obtain ⟨g, o, c, hp, rfl, _⟩ := hx
      obtain ⟨cur, hg, hcr⟩ := hm.cellsAt hb hp
      obtain ⟨hlen, us, hul, hv, hcu⟩ := hcr.sub hl
      have hcell : ∀ j v, us[j]? = some v → w.cell? (Addr.add ⟨g, o + off, none⟩ j) = some v := fun j v hj => by
        rw [Addr.add_lit]; simp [World.cell?, hg, hcu j v hj]
      refine ⟨us, ⟨hk, fun _ => rfl, run_firstCells_some w size n _ _ _ us hul hcell, run_firstCells_some w.drew size n _ _ _ us hul (by simpa using hcell), hul, flats_one hfl hv⟩, hv⟩
    · cases h1
      cases hx
      exact ⟨[], ⟨hk, fun _ => rfl, run_firstCells_none w size 0 0 0, run_firstCells_none w.drew size 0 0 0, by simp, fun _ h => by cases h⟩, trivial⟩
    · cases h1
      obtain ⟨a, c, rfl⟩ := hx
      cases a with
      | none => exact ⟨[], ⟨hk, fun _ => rfl, run_firstCells_none w size 0 0 c, run_firstCells_none w.drew size 0 0 c, by simp, fun _ h => by cases h⟩, trivial⟩
      | some a =>
        exact ⟨[], ⟨hk, fun _ => rfl, run_firstCells_some w size 0 a 0 c [] (by simp) (by simp), run_firstCells_some w.drew size 0 a 0 c [] (by simp) (by simp), by simp, fun _ h => by cases h⟩, trivial⟩
  cases x with
  | a l => cases h
  | t l => cases h
  | c x =>
    cases x with
    | i k n => cases h
    | p b o => cases h
    | b x => cases h
    | o y => exact slice y rfl h
    | s s =>
      obtain ⟨hs, h1⟩ := ifb_eq (show ifb (Nat.beq size 1) (some (s.length, s.map byteC)) none = some (n, l) from h)
      rw [beq_iff] at hs
      have hs : size = 1 := by simpa using hs
      subst hs
      cases h1
      obtain ⟨b, rfl, rfl⟩ := hx
      refine ⟨byteCells b, ⟨hk, fun _ => by rw [nats_length]; rfl, by rw [nats_length]; exact firstCells_string b w, by rw [nats_length]; exact firstCells_string b w.drew, by rw [byteCells_length, nats_length, Nat.mul_one], fun u hu => by
        obtain ⟨_, _, rfl⟩ := List.mem_map.1 hu
        rfl⟩, byteC_sound rfl⟩

theorem flats_append {l m : List Cell} (h1 : flats l = true) (h2 : flats m = true) : flats (l ++ m) = true := by
  induction l with
  | nil => exact h2
  | cons a l ih => obtain ⟨h3, h4⟩ := ifb_and h1; simp [flats, h3, ih h4, ifb]

theorem takeN_prefix {α : Type} {n m : Nat} {l r : List α} (_ : takeN n l = some r) (_ : takeN m l = some l) : True := trivial

/-- A row that grows into a new block. -/
theorem grow_sound (hm : MR base φ σ w) {n : Nat} (hn : σ.next = n + 1) (hlt : n < 13824) {e : TypeId} {l : List Cell} (rel : List Nat) {size need : Nat} {cells : List Value} {u : World} (hu : MR base φ σ u) (hh : u.heap = w.heap) (ho : u.os = w.os) (ht : u.tape = w.tape) (hp : u.output = w.output) (hdr : w.drawn ≤ u.drawn)
    (hc : All2 (VRc φ) l cells) {rest : Array Value} {c : Nat} (hneed : need ≤ c) (hrest : need * size + rest.size = c * size) (hcells : cells.length = need * size) :
    ∃ ψ, VR ψ (slcV 0 need need (Nat.succ size) n) (.slice (some ⟨w.heap.size, 0, none⟩) need c) ∧
      Stp base φ σ w ψ ⟨hput σ.heap n (.cells e l rel false), n + 2, σ.dirty⟩ (u.alloc (.cells (cells.toArray ++ rest) e)) := by
  refine ⟨φ.set n (w.heap.size, 0) (objSize (.cells (cells.toArray ++ rest) e)), ⟨w.heap.size, 0, c, Phi.set_same _ _ _ _, rfl, hneed, (fun h => by cases h), Nat.le_refl _, fun s hs => ?_⟩, ?_⟩
  · cases hs
    rw [Phi.set_lim]
    simp only [objSize, Array.size_append, List.size_toArray]
    omega
  · have hst := hu.new hn hlt (.cells e l rel false) (.cells (cells.toArray ++ rest) e) (by
      intro g1 o1 hp1
      rw [Phi.set_same] at hp1; cases hp1
      refine ⟨_, heap_alloc_new u _, ?_, by rw [Phi.set_lim]; rfl⟩
      intro i x hx
      obtain ⟨v, hv, hr⟩ := (hc.mono fun _ _ => VRc.mono (Phi.le_set (x := (u.heap.size, 0)) (z := objSize (.cells (cells.toArray ++ rest) e)) (hm.fresh n (by omega)) fun d g o hd he => absurd (hu.low d g o hd).2 (by simp at he; omega))).get hx
      refine ⟨v, ?_, hr⟩
      have hlt : i < cells.length := (List.getElem?_eq_some_iff.1 hv).1
      rw [Nat.zero_add, Array.getElem?_append_left (by simpa using hlt)]
      simpa using hv)
    rw [hh] at hst
    exact ⟨hst.le, hst.mr, by rw [← hh]; exact hst.size, fun g hg => by rw [← hh] at hg ⊢; exact hst.frame g hg, fun b g o hl hp hg => hst.img b g o hl hp (by rw [hh]; exact hg), hst.next, hst.keep, hst.ghost, hst.dirt, hst.same, hst.kept, by rw [hst.os, ho], by rw [hst.tape, ht], by rw [hst.output, hp], Nat.le_trans hdr hst.drawn⟩

/-- What append does with what is appended: nothing; into the room; into a new row. -/
structure Adds (P : Program) (t tx ty e : TypeId) (i : TypeInfo) (z : Value) (x : Value) (n : Nat) (news : List Value) (w : World) : Prop where
  newsLen : news.length = n * i.size
  nil : n = 0 → ∀ (a : Option Addr) (sLen sCap : Nat), sLen ≤ sCap → (Builtin.append_ #[t, tx] ty #[.slice a sLen sCap, x]).run P w = .ok (.slice a sLen sCap) w
  row : ∀ (g k sLen sCap : Nat) (cur : Array Value) (e' : TypeId), sLen + n ≤ sCap → w.heap[g]? = some (.cells cur e' (0, 0)) → k + sLen * i.size + news.length ≤ cur.size →
    (Builtin.append_ #[t, tx] ty #[.slice (some ⟨g, k, none⟩) sLen sCap, x]).run P w = .ok (.slice (some ⟨g, k, none⟩) (sLen + n) sCap) (w.setRow g (spliced cur (k + sLen * i.size) news))
  grow : ∀ (base : Option Addr) (sLen sCap : Nat) (olds : List Value), (Builtin.firstCells i.size sLen (.slice base sLen sCap)).run P w.drew = .ok olds.toArray w.drew → sCap < sLen + n → ((sLen + n : Nat) : Int) ≤ 9223372036854775807 →
    Builtin.nextslicecap (sLen + n) sCap * i.bytes ≤ 281474976710656 → (Builtin.append_ #[t, tx] ty #[.slice base sLen sCap, x]).run P w =
      .ok (.slice (some ⟨w.heap.size, 0, none⟩) (sLen + n) (grownCap w (sLen + n) sCap e))
        (w.drew.alloc (.cells ((olds ++ news).toArray ++ Builtin.zeroCells z.cells (grownCap w (sLen + n) sCap e - (sLen + n))) e))

theorem Adds.ofSrc {t tx ty e : TypeId} {i : TypeInfo} {z : Value} (ht : P.underlying t = some (.slice e)) (hi : P.info? e = some i) (hz : i.zero = some z) {x : Value} {n : Nat} {news : List Value} (hs : Src P i.size tx x n news w) :
    Adds P t tx ty e i z x n news w :=
  ⟨hs.newsLen, fun h a sLen sCap hr => by subst h; exact run_append_none ht hi hs hr, fun g k sLen sCap cur e' hr hg hf => run_append_row ht hi hs hr hg hf,
    fun base sLen sCap olds ho hg h63 hfit => run_append_grow_src w t tx ty e i z ht hi hz base sLen sCap olds ho x n news hs hg h63 hfit⟩

theorem Adds.ofZeros {t tx ty e : TypeId} {i : TypeInfo} {z : Value} (ht : P.underlying t = some (.slice e)) (hi : P.info? e = some i) (hz : i.zero = some z) {k : IntKind} (hk : P.underlying tx = some (.int k)) {j : IntKind} {n : Nat} (hn : n ≤ 65536) (hb : i.bytes ≤ 65536)
    (hzs : z.cells.size = i.size) (hone : ∀ u ∈ (Builtin.zeroCells z.cells n).toList, u.oneCell' = true) : Adds P t tx ty e i z (.int j (n : Int)) n (Builtin.zeroCells z.cells n).toList w := by
  have hl : (Builtin.zeroCells z.cells n).toList.length = n * i.size := by simp [Builtin.zeroCells, hzs]
  have hwrap : IntKind.i64.wrap (n : Int) = (n : Int) := IntWalk.i64_in _ (by omega)
  have hneg : ¬ ((n : Int) < 0) := by omega
  have hbytes : ¬ ((2 ^ 48 : Int) < (n : Int) * (i.bytes : Int)) := by
    have h1 : n * i.bytes ≤ 65536 * 65536 := Nat.mul_le_mul hn hb
    have h2 : ((n * i.bytes : Nat) : Int) ≤ ((65536 * 65536 : Nat) : Int) := by exact_mod_cast h1
    rw [Int.natCast_mul] at h2
    omega
  have hbytes' : ¬ ((281474976710656 : Int) < (n : Int) * (i.bytes : Int)) := hbytes
  have hnone : n * i.size = 0 → (Builtin.zeroCells z.cells n) = #[] := fun h => by
    apply Array.eq_empty_of_size_eq_zero
    rw [← h]; simpa using hl
  refine ⟨hl, fun h a sLen sCap hr => ?_, fun g k' sLen sCap cur e' hr hg hf => ?_, fun base sLen sCap olds ho hg h63 hfit => ?_⟩
  · subst h
    have hw0 : IntKind.i64.wrap 0 = 0 := hwrap
    cases a <;> simp [Builtin.append_, run_underlying ht, run_underlying hk, sizeOf, typeInfo, hi, asInt, asIntOf, hw0, hr, storeCells]
  · have hst := run_storeCells_spliced P hg hf hone
    by_cases h0 : n * i.size = 0
    · have hne := hnone h0
      rw [hne] at hst ⊢
      simp [Builtin.append_, run_underlying ht, run_underlying hk, sizeOf, typeInfo, hi, asInt, asIntOf, hwrap, hneg, hbytes', hr, h0, Addr.add_lit]
      simpa using congrArg (fun r => r.andThen fun _ w' => Result.ok (Value.slice (some ⟨g, k', none⟩) (sLen + n) sCap) w') hst
    · simp [Builtin.append_, run_underlying ht, run_underlying hk, sizeOf, typeInfo, hi, asInt, asIntOf, hwrap, hneg, hbytes', hr, h0, Addr.add_lit, zeroValue, hz]
      simpa using congrArg (fun r => r.andThen fun _ w' => Result.ok (Value.slice (some ⟨g, k', none⟩) (sLen + n) sCap) w') hst
  · have hn' : ¬ (sLen + n ≤ sCap) := by omega
    have h63' : ¬ (9223372036854775807 < ((sLen : Int) + (n : Int))) := by omega
    have h48' : ¬ (281474976710656 < Builtin.nextslicecap (sLen + n) sCap * i.bytes) := by omega
    by_cases h0 : n * i.size = 0
    · have hne := hnone h0
      simp [Builtin.append_, run_underlying ht, run_underlying hk, sizeOf, typeInfo, zeroValue, hi, hz, asInt, asIntOf, hwrap, hneg, hbytes', hn', h63', h48', Question.forced, ho, newRow, grownCap, hne]
    · simp [Builtin.append_, run_underlying ht, run_underlying hk, sizeOf, typeInfo, zeroValue, hi, hz, asInt, asIntOf, hwrap, hneg, hbytes', hn', h63', h48', Question.forced, h0, ho, newRow, grownCap]
      congr 2
      apply Array.ext'
      simp [List.append_assoc]

include hΓ
theorem appendB_sound (hm : MR base φ σ w) {t tx : TypeId} {s x v : AV} {us ux : Value} {τ : St} (h : (appendB Γ t tx).run σ s x = some (v, τ)) (hs : VR φ s us) (hx : VR φ x ux) (ty : TypeId) :
    ∃ z w' ψ, (Builtin.append_ #[t, tx] ty #[us, ux]).run P w = .ok z w' ∧ VR ψ v z ∧ Stp base φ σ w ψ τ w' := by
  unfold appendB at h
  split at h
  · rename_i e ht
    split at h
    · rename_i zc hz
      obtain ⟨i, zv, hi, hzv, hby, hlen, hzr⟩ := okZero_some hΓ (φ := φ) hz
      obtain ⟨⟨n, new⟩, hsrc, h1⟩ := onSome_eq h
      obtain ⟨hb, h2⟩ := ifb_eq h1
      obtain ⟨hfl, hbig⟩ := ifb_and hb
      rw [ble_iff] at hbig
      have hbig : n ≤ 1048576 := by simpa using hbig
      have hzs : zv.cells.size = i.size := by rw [← hlen, hzr.length]; simp
      have hu := hΓ.und ht
      have key : ∃ news, Adds P t tx ty e i zv ux n news w ∧ All2 (VRc φ) new news := by
        unfold srcB at hsrc
        split at hsrc
        · rename_i e' hk; obtain ⟨news, h1, h2⟩ := cellsOfA_sound hm hsrc hfl hx (.inl ⟨e', hΓ.und hk⟩); exact ⟨news, Adds.ofSrc hu hi hzv (by rw [← hlen]; exact h1), h2⟩
        · rename_i hk; obtain ⟨news, h1, h2⟩ := cellsOfA_sound hm hsrc hfl hx (.inr (hΓ.und hk)); exact ⟨news, Adds.ofSrc hu hi hzv (by rw [← hlen]; exact h1), h2⟩
        · rename_i k hk
          obtain ⟨j, m, rfl, h1⟩ := onN_some hsrc
          obtain ⟨hb2, h2⟩ := ifb_eq h1
          cases h2
          rw [ble_iff] at hb2
          have hx : ux = .int j (n : Int) := hx
          subst hx
          have hr := rep_sound hzr n
          have hzl : zc.length = zv.cells.size := by rw [hzr.length]; simp
          have hzc : Builtin.zeroCells zv.cells n = (Array.range (n * zc.length)).map (zv.cells[· % zv.cells.size]!) := by rw [hzl]; rfl
          rw [← hzc] at hr
          exact ⟨_, Adds.ofZeros hu hi hzv (hΓ.und hk) (by simpa using hb2) hby hzs (flats_one hfl hr), hr⟩
        · cases hsrc
      obtain ⟨news, hS, hnew⟩ := key
      have hnl : new.length = n * i.size := by rw [hnew.length, hS.newsLen]
      have h2 : appendCells e zc.length σ s n new = some (v, τ) := h2
      rw [hlen] at h2
      clear h1 h hsrc hb
      have hzc : ∀ k, (Builtin.zeroCells zv.cells k).size = k * i.size := fun k => by simp [Builtin.zeroCells, hzs]
      unfold appendCells at h2
      obtain ⟨y, rfl, h3⟩ := onO_some h2
      clear h2
      cases y <;> simp only [] at h3 <;> try (cases h3; done)
      · rename_i b off len cap ex
        obtain ⟨g, o, c, hp, rfl, hcap, hex, hlc, hun⟩ := hs
        have hp : φ b = some (g, o) := hp
        cases hroom : Nat.ble (Nat.add len n) cap with
        | true =>
          rw [hroom] at h3
          have hr : len + n ≤ cap := by rw [ble_iff] at hroom; simpa using hroom
          cases n with
          | zero =>
            cases h3
            exact ⟨_, w, φ, hS.nil rfl _ _ _ (by omega), ⟨g, o, c, hp, rfl, hcap, hex, hlc, hun⟩, Stp.refl hm⟩
          | succ n =>
            obtain ⟨τ', hw, h4⟩ := onSome_eq h3
            cases h4
            obtain ⟨cur, e', hg, hsz, hne, hst⟩ := wrCells_sound hm hw hp hnew
            have hrun := hS.row g (o + off) len c cur e' (show len + (n + 1) ≤ c by omega) hg (by show o + off + len * i.size + _ ≤ _; have : o + (off + len * i.size) + news.length ≤ cur.size := hsz; omega)
            refine ⟨_, _, φ, hrun, ⟨g, o, c, hp, rfl, hcap, hex, by show len + (n + 1) ≤ cap; omega, hun⟩, ?_⟩
            have : o + off + len * i.size = o + Nat.add off (Nat.mul len i.size) := by show _ = o + (off + len * i.size); omega
            rw [this]; exact hst
        | false =>
          rw [hroom] at h3
          have hr : ¬ (len + n ≤ cap) := by rw [ble_iff] at hroom; simpa using hroom
          obtain ⟨hsmall, h4⟩ := ifb_eq (show ifb (Nat.ble (Nat.add len n) 2097152) _ none = some (v, τ) from h3)
          clear h3
          rw [ble_iff] at hsmall
          have hsmall : len + n ≤ 2097152 := by simpa using hsmall
          obtain ⟨e', l, rel, old, hbk, h5⟩ := onCells_some h4
          obtain ⟨had, hhad, h6⟩ := onSome_eq h5
          obtain ⟨cur, hg, hcr⟩ := hm.cellsAt hbk hp
          obtain ⟨hhl, olds, hol, hov, hcu⟩ := hcr.sub hhad
          have hcell : ∀ j v, olds[j]? = some v → w.cell? (Addr.add ⟨g, o + off, none⟩ j) = some v := fun j v hj => by
            rw [Addr.add_lit]; simp [World.cell?, hg, hcu j v hj]
          have hfirst := run_firstCells_some (P := P) w.drew i.size len ⟨g, o + off, none⟩ len c olds hol (by simpa using hcell)
          have hall : All2 (VRc φ) (had ++ new) (olds ++ news) := hov.append hnew
          have hlenall : (olds ++ news).length = (len + n) * i.size := by rw [List.length_append, hol, hS.newsLen, Nat.add_mul]; rfl
          have grow : c < len + n → ∀ (σ' : St) (rel' : List Nat) (_ : MR base φ σ' w) (m : Nat), σ'.next = m + 1 → m < 13824 → ∃ z w' ψ, (Builtin.append_ #[t, tx] ty #[.slice (some ⟨g, o + off, none⟩) len c, ux]).run P w = .ok z w' ∧
              VR ψ (slcV 0 (len + n) (len + n) (Nat.succ i.size) m) z ∧ Stp base φ σ' w ψ ⟨hput σ'.heap m (.cells e (had ++ new) rel' false), m + 2, σ'.dirty⟩ w' := by
            intro hcn σ' rel' hm' m hm1 hm2
            have hle := nextslicecap_le hcn
            have hrun := hS.grow (some ⟨g, o + off, none⟩) len c olds hfirst hcn (by omega) (Nat.le_trans (Nat.mul_le_mul hle hby) (by omega))
            have hge := grownCap_ge w (len + n) c e
            obtain ⟨ψ, h7, h8⟩ := grow_sound hm' hm1 hm2 rel' (e := e) (need := len + n) (size := i.size) (u := w.drew) hm'.drew rfl rfl rfl rfl (Nat.le_succ _) hall hge (rest := Builtin.zeroCells zv.cells (grownCap w (len + n) c e - (len + n)))
              (by rw [hzc, ← Nat.add_mul]; congr 1; omega) hlenall
            exact ⟨_, _, ψ, hrun, h7, h8⟩
          cases ex with
          | zero =>
            obtain ⟨m, hm1, hm2, he⟩ := newBlk_some h6
            cases he
            exact grow (by rw [hex rfl]; omega) σ [] hm m hm1 hm2
          | succ s =>
            obtain ⟨hcond, h7⟩ := ifb_eq (show ifb (ifb old false (ifb (Nat.beq e' e) (Nat.beq s i.size) false)) _ none = some (v, τ) from h6)
            have hold : old = false := by cases old; rfl; cases hcond
            subst hold
            obtain ⟨he1, he2⟩ := ifb_and (show ifb (Nat.beq e' e) (Nat.beq s i.size) false = true from hcond)
            rw [beq_iff] at he1 he2
            have he1 : e' = e := by simpa using he1
            have he2 : s = i.size := by simpa using he2
            subst he1; subst he2
            obtain ⟨l', hl', h8⟩ := onSome_eq h7
            obtain ⟨hl1, hl2⟩ := takeN_some hl'
            have hl2 : off + len * i.size ≤ l.length := hl2
            have hl1 : l' = l.take (off + len * i.size) := hl1
            have hsub : ∀ (j : Nat) (y : Cell), l'[j]? = some y → j < off + len * i.size ∧ l[j]? = some y := by
              intro j y hj
              rw [hl1] at hj
              have hlt : j < off + len * i.size := by
                have := (List.getElem?_eq_some_iff.1 hj).1
                rw [List.length_take] at this; omega
              rw [List.getElem?_take_of_lt hlt] at hj
              exact ⟨hlt, hj⟩
            obtain ⟨cur', hg', hcr', hlimg⟩ := (show BR φ w b (.cells e' l rel false) by rw [← hbk]; exact hm.blk b) g o hp
            rw [hg] at hg'; cases hg'
            have hlive : live σ b := by unfold live; rw [hbk]; simp
            have hσ : (⟨hput (kill (hget σ b).rel σ.heap) b (.cells e' l' [] true), σ.next, lowd b (hget σ b).rel σ.dirty⟩ : St) = ⟨hput (kill rel σ.heap) b (.cells e' l' [] true), σ.next, lowd b rel σ.dirty⟩ := by
              rw [hbk]; rfl
            rw [← hσ] at h8
            obtain ⟨m, hm1, hm2, he⟩ := newBlk_some h8
            cases he
            have hm1 : σ.next = m + 1 := hm1
            by_cases hcn : c < len + n
            · have st1 := hm.turn (u := w) hlive hp (by rw [hbk]; rfl) (.cells e' l' [] true) (by
                intro g1 o1 hp1
                rw [hp] at hp1; cases hp1
                exact ⟨cur, hg, fun j y hj => hcr j y (hsub j y hj).2, hlimg⟩) rfl (fun _ _ => rfl) rfl rfl rfl rfl
              obtain ⟨z, w', ψ, h9, h10, h11⟩ := grow hcn _ [b] st1.mr m hm1 hm2
              exact ⟨z, w', ψ, h9, h10, st1.trans h11⟩
            · have hlim := hun i.size rfl
              have hfit : o + off + len * i.size + news.length ≤ cur.size := by
                rw [hS.newsLen, hlimg]
                have : (len + n) * i.size ≤ c * i.size := Nat.mul_le_mul_right _ (by omega)
                rw [Nat.add_mul] at this
                omega
              have hrun := hS.row g (o + off) len c cur e' (show len + n ≤ c by omega) hg hfit
              have hsz : (spliced cur (o + off + len * i.size) news).size = cur.size := by simp; omega
              have st1 := hm.turn (u := w.setRow g (spliced cur (o + off + len * i.size) news)) hlive hp (by rw [hbk]; rfl) (.cells e' l' [] true) (by
                intro g1 o1 hp1
                rw [hp] at hp1; cases hp1
                refine ⟨_, setRow_heap w g cur _ e' (0, 0) hg, fun j y hj => ?_, by rw [hsz, hlimg]⟩
                obtain ⟨h1, h2⟩ := hsub j y hj
                obtain ⟨v, hv, hr⟩ := hcr j y h2
                exact ⟨v, by rw [spliced_get hfit, if_neg (by omega)]; exact hv, hr⟩) (size_setRow _ _ _) (fun k hk => setRow_other w g k _ hk) rfl rfl rfl rfl
              have hgetb : ∀ d, hget (⟨hput (kill (hget σ b).rel σ.heap) b (.cells e' l' [] true), σ.next, lowd b (hget σ b).rel σ.dirty⟩ : St) d = if d = b then .cells e' l' [] true else if d ∈ (hget σ b).rel then .none else hget σ d := by
                intro d
                rw [hget_mk]
                by_cases e : d = b
                · subst e; rw [if_pos rfl]; exact getH_hput_same (getH_lt (h := σ.heap) (by rw [← hget_eq]; exact hlive)) _ _
                · rw [if_neg e, getH_hput_ne e, getH_kill, hget_eq σ d]
              have hlb : hget (⟨hput (kill (hget σ b).rel σ.heap) b (.cells e' l' [] true), σ.next, lowd b (hget σ b).rel σ.dirty⟩ : St) b = .cells e' l' [] true := by rw [hgetb, if_pos rfl]
              have st2 := st1.mr.share (n := m) (b := b) (g := g) (o := o) (o' := o + off) (e := e') (l := had ++ new) hm1 hm2 hp (by unfold live; rw [hlb]; simp) (by rw [hlb]; rfl)
                (fun d k p hd hld hpd => by
                  unfold live at hld
                  rw [hgetb, if_neg hd] at hld
                  by_cases hr : d ∈ (hget σ b).rel
                  · rw [if_pos hr] at hld; exact absurd rfl hld
                  · rw [if_neg hr] at hld; exact hm.alone hlive hp (by rw [hbk]; rfl) hd hld hr hpd)
                (by
                  intro g1 o1 hp1
                  rw [Phi.set_same] at hp1; cases hp1
                  refine ⟨_, setRow_heap w g cur _ e' (0, 0) hg, fun j y hj => ?_, by rw [hsz, hlimg, Phi.set_lim]⟩
                  obtain ⟨v, hv, hr⟩ := hall.get hj
                  refine ⟨v, ?_, hr.mono (Phi.le_set (hm.fresh m (by omega)) fun d k p _ hk => by rw [hk])⟩
                  have hol' : olds.length = len * i.size := hol
                  rw [spliced_get hfit]
                  by_cases hjl : j < olds.length
                  · rw [List.getElem?_append_left hjl] at hv
                    rw [if_neg (by omega)]
                    exact hcu j v hv
                  · rw [List.getElem?_append_right (by omega)] at hv
                    have hjn : j - olds.length < news.length := (List.getElem?_eq_some_iff.1 hv).1
                    rw [if_pos (by omega)]
                    rw [← hv]; congr 1; omega)
              refine ⟨_, _, _, hrun, ⟨g, o + off, c, Phi.set_same _ _ _ _, rfl, by show len + n ≤ c; omega, (fun h => by cases h), Nat.le_refl _, fun s hs => ?_⟩, st1.trans st2⟩
              cases hs
              rw [Phi.set_lim]
              exact hlim
      · have hs : us = .slice none 0 0 := hs
        subst hs
        cases n with
        | zero => cases h3; exact ⟨_, w, φ, hS.nil rfl _ _ _ (Nat.le_refl _), rfl, Stp.refl hm⟩
        | succ n =>
          obtain ⟨m, hm1, hm2, he⟩ := newBlk_some h3
          cases he
          have hle := nextslicecap_le (show 0 < n + 1 by omega)
          have hrun := hS.grow none 0 0 [] (run_firstCells_none _ _ _ _ _) (by omega) (by omega) (Nat.le_trans (Nat.mul_le_mul (by simpa using hle) hby) (by omega))
          have hge := grownCap_ge w (0 + (n + 1)) 0 e
          obtain ⟨ψ, h7, h8⟩ := grow_sound hm hm1 hm2 [] (e := e) (need := n + 1) (size := i.size) (u := w.drew) hm.drew rfl rfl rfl rfl (Nat.le_succ _) hnew (c := grownCap w (0 + (n + 1)) 0 e) (by omega)
            (rest := Builtin.zeroCells zv.cells (grownCap w (0 + (n + 1)) 0 e - (0 + (n + 1)))) (by rw [hzc, ← Nat.add_mul]; congr 1; omega) hS.newsLen
          refine ⟨_, _, ψ, hrun, ?_, ?_⟩
          · rw [Nat.zero_add] at h7 ⊢; exact h7
          · rw [List.nil_append]; exact h8
    · cases h
  · cases h
end
end Go.Ev
