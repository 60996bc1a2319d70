/-
  Every operation that writes.
-/
import Derived.Test.YtjjnhpoemcihgaaGreatEvp
import Derived.Lib.UnsafeStr
namespace Go.Ev

section
variable {P : Program} {Γ : Tab} (hΓ : TabOk P Γ) {φ : Phi} {base : Nat} {σ : St} {w : World}

theorem unitS_some {r : Option St} {v : AV} {τ : St} (h : unitS r = some (v, τ)) : r = some τ ∧ v = .t [] := by
  obtain ⟨τ', hr, h1⟩ := onSome_eq h
  cases h1
  exact ⟨hr, rfl⟩
theorem unit_sound (φ : Phi) : VR φ (.t []) undef := ⟨#[], rfl, trivial⟩

/-- What an operation did: a value, or nothing that is told. -/
def Did (P : Program) (φ : Phi) (base : Nat) (σ : St) (w : World) (s : Sem Next) (v : AV) (τ : St) : Prop :=
  ∃ r u w' ψ, s.run P w = .ok r w' ∧ (r = .value u ∨ (r = .skip ∧ u = undef)) ∧ VR ψ v u ∧ Stp base φ σ w ψ τ w'

theorem Did.unit {s : Sem Unit} {τ : St} (h : ∃ w', s.run P w = .ok () w' ∧ Stp base φ σ w φ τ w') : Did P φ base σ w (do s; pure .skip) (.t []) τ := by
  obtain ⟨w', h1, h2⟩ := h
  exact ⟨.skip, undef, w', φ, by simp [h1], .inr ⟨rfl, rfl⟩, unit_sound φ, h2⟩
theorem Did.val {s : Sem Value} {v : AV} {τ : St} (h : ∃ z w' ψ, s.run P w = .ok z w' ∧ VR ψ v z ∧ Stp base φ σ w ψ τ w') : Did P φ base σ w (do let x ← s; pure (.value x)) v τ := by
  obtain ⟨z, w', ψ, h1, h2, h3⟩ := h
  exact ⟨.value z, z, w', ψ, by simp [h1], .inl rfl, h2, h3⟩

theorem three_run {j1 j2 j3 : IntKind} (n1 n2 : Nat) {n3 : Nat} (h : n3 ≤ 1) : (Extern.MathBitsCarry.three "Add64" #[.int j1 (n1 : Int), .int j2 (n2 : Int), .int j3 (n3 : Int)]).run P w = .ok (n1, n2, n3) w := by
  match n3, h with
  | 0, _ => rfl
  | 1, _ => rfl
theorem add64_run {j1 j2 j3 : IntKind} (n1 n2 : Nat) {n3 : Nat} (h : n3 ≤ 1) : (extF .add64 #[.int j1 (n1 : Int), .int j2 (n2 : Int), .int j3 (n3 : Int)]).run P w =
    .ok (Extern.MathBitsCarry.pair ((n1 + n2 + n3) % Extern.MathBitsCarry.m64) ((n1 + n2 + n3) / Extern.MathBitsCarry.m64)) w := by
  have e : extF .add64 #[.int j1 (n1 : Int), .int j2 (n2 : Int), .int j3 (n3 : Int)] = (Extern.MathBitsCarry.three "Add64" #[.int j1 (n1 : Int), .int j2 (n2 : Int), .int j3 (n3 : Int)] >>= fun p => pure (Extern.MathBitsCarry.pair ((p.1 + p.2.1 + p.2.2) % Extern.MathBitsCarry.m64) ((p.1 + p.2.1 + p.2.2) / Extern.MathBitsCarry.m64))) := rfl
  rw [e, Sem.run_bind, three_run n1 n2 h]
  rfl

theorem three_run' {j1 j2 j3 : IntKind} (n1 n2 : Int) {n3 : Nat} (h : n3 ≤ 1) : (Extern.MathBitsCarry.three "Add64" #[.int j1 n1, .int j2 n2, .int j3 (n3 : Int)]).run P w = .ok (n1.toNat, n2.toNat, n3) w := by
  match n3, h with
  | 0, _ => rfl
  | 1, _ => rfl
theorem add64_run' {j1 j2 j3 : IntKind} (n1 n2 : Int) {n3 : Nat} (h : n3 ≤ 1) : (extF .add64 #[.int j1 n1, .int j2 n2, .int j3 (n3 : Int)]).run P w =
    .ok (Extern.MathBitsCarry.pair ((n1.toNat + n2.toNat + n3) % Extern.MathBitsCarry.m64) ((n1.toNat + n2.toNat + n3) / Extern.MathBitsCarry.m64)) w := by
  have e : extF .add64 #[.int j1 n1, .int j2 n2, .int j3 (n3 : Int)] = (Extern.MathBitsCarry.three "Add64" #[.int j1 n1, .int j2 n2, .int j3 (n3 : Int)] >>= fun p => pure (Extern.MathBitsCarry.pair ((p.1 + p.2.1 + p.2.2) % Extern.MathBitsCarry.m64) ((p.1 + p.2.1 + p.2.2) / Extern.MathBitsCarry.m64))) := rfl
  rw [e, Sem.run_bind, three_run' n1 n2 h]
  rfl
theorem rawSy_sound (k : IntKind) (c : Int) (l : List (Nat × Int)) : VRc φ (rawSy k c l) (.int k (c + evalL φ.ρ l)) := by
  cases l with
  | nil => show Value.int k _ = Value.int k _; simp [evalL]
  | cons p l => exact rfl

theorem add64S_sound (hm : MR base φ σ w) {x y c v : AV} {τ : St} {u1 u2 u3 : Value} (h : add64S σ x y c = some (v, τ)) (h1 : VR φ x u1) (h2 : VR φ y u2) (h3 : VR φ c u3) :
    ∃ z w' ψ, (extF .add64 #[u1, u2, u3]).run P w = .ok z w' ∧ VR ψ v z ∧ Stp base φ σ w ψ τ w' := by
  obtain ⟨j1, cx, l, g1, e1⟩ := onL_some h
  obtain ⟨j2, cy, m, g2, e2⟩ := onL_some g1
  obtain ⟨j3, e, rfl, g3⟩ := onN_some g2
  obtain ⟨hc, g4⟩ := ifb_eq g3
  obtain ⟨v1, hv1, g5⟩ := onSome_eq g4
  obtain ⟨v2, hv2, g6⟩ := onSome_eq g5
  obtain ⟨b, hb, g7⟩ := onSome_eq g6
  cases g7
  rw [ble_iff] at hc
  have hc : e ≤ 1 := by simpa using hc
  have r1 := (mkSy'_sound hm.factsHold hv1).2
  have r2 := (mkSy'_sound hm.factsHold hv2).2
  have hd := decLe_sound hm.factsHold hb
  rw [evalL_neg, evalL_add] at hd
  have e1 := e1 φ u1 h1
  have e2 := e2 φ u2 h2
  have e3 : u3 = .int j3 (e : Int) := h3
  subst e1 e2 e3
  have s1 := rawSy_sound (φ := φ) .u64 (ifb b (Int.sub (Int.add (Int.add cx cy) (.ofNat e)) 18446744073709551616) (Int.add (Int.add cx cy) (.ofNat e))) (addL l m)
  rw [evalL_add] at s1
  have hT : (Int.add (Int.add cx cy) (.ofNat e)) = cx + cy + (e : Int) := rfl
  have hT' : Int.sub 18446744073709551616 (Int.add (Int.add cx cy) (.ofNat e)) = 18446744073709551616 - (cx + cy + (e : Int)) := rfl
  have hT2 : (Int.sub (Int.add (Int.add cx cy) (.ofNat e)) 18446744073709551616) = cx + cy + (e : Int) - 18446744073709551616 := rfl
  rw [hT'] at hd
  rw [hT2, hT] at s1
  have q1 : 0 ≤ cx + evalL φ.ρ l ∧ cx + evalL φ.ρ l < 18446744073709551616 := by
    rw [← r1]; simp only [IntKind.wrap, IntKind.signed, IntKind.bits]; simp; omega
  have q2 : 0 ≤ cy + evalL φ.ρ m ∧ cy + evalL φ.ρ m < 18446744073709551616 := by
    rw [← r2]; simp only [IntKind.wrap, IntKind.signed, IntKind.bits]; simp; omega
  refine ⟨_, w, φ, add64_run' _ _ hc, ?_, Stp.refl hm⟩
  refine ⟨_, rfl, ?_, ?_, trivial⟩
  · show VRc φ _ (.int .u64 (Int.ofNat _))
    have : (Int.ofNat (((cx + evalL φ.ρ l).toNat + (cy + evalL φ.ρ m).toNat + e) % Extern.MathBitsCarry.m64)) = (ifb b (cx + cy + (e : Int) - 18446744073709551616) (cx + cy + (e : Int))) + (evalL φ.ρ l + evalL φ.ρ m) := by
      show ((((cx + evalL φ.ρ l).toNat + (cy + evalL φ.ρ m).toNat + e) % 18446744073709551616 : Nat) : Int) = _
      cases b with
      | true =>
        have hd : 18446744073709551616 - (cx + cy + (e : Int)) + -(evalL φ.ρ l + evalL φ.ρ m) ≤ 0 := by simpa using hd.symm
        show _ = cx + cy + (e : Int) - 18446744073709551616 + (evalL φ.ρ l + evalL φ.ρ m)
        omega
      | false =>
        have hd : ¬ 18446744073709551616 - (cx + cy + (e : Int)) + -(evalL φ.ρ l + evalL φ.ρ m) ≤ 0 := by simpa using hd.symm
        show _ = cx + cy + (e : Int) + (evalL φ.ρ l + evalL φ.ρ m)
        omega
    rw [this]; exact s1
  · show VRc φ (.i .u64 (ifb b 1 0)) (.int .u64 (Int.ofNat _))
    have : (Int.ofNat (((cx + evalL φ.ρ l).toNat + (cy + evalL φ.ρ m).toNat + e) / Extern.MathBitsCarry.m64)) = ifb b 1 0 := by
      show ((((cx + evalL φ.ρ l).toNat + (cy + evalL φ.ρ m).toNat + e) / 18446744073709551616 : Nat) : Int) = _
      cases b with
      | true =>
        have hd : 18446744073709551616 - (cx + cy + (e : Int)) + -(evalL φ.ρ l + evalL φ.ρ m) ≤ 0 := by simpa using hd.symm
        show _ = (1 : Int)
        omega
      | false =>
        have hd : ¬ 18446744073709551616 - (cx + cy + (e : Int)) + -(evalL φ.ρ l + evalL φ.ρ m) ≤ 0 := by simpa using hd.symm
        show _ = (0 : Int)
        omega
    rw [this]; exact rfl

theorem extA_sound (hm : MR base φ σ w) {e : Ext} {args : List AV} {us : Array Value} {v : AV} {τ : St} (h : (extA e).run σ args = some (v, τ)) (ha : All2 (VR φ) args us.toList) :
    ∃ z w' ψ, (extF e us).run P w = .ok z w' ∧ VR ψ v z ∧ Stp base φ σ w ψ τ w' := by
  cases e with
  | add64 =>
    cases args with
    | nil => cases h
    | cons x l => cases l with
      | nil => cases h
      | cons y l => cases l with
        | nil => cases h
        | cons c l => cases l with
          | cons _ _ => cases h
          | nil =>
            obtain ⟨us⟩ := us
            match us, ha with
            | [u1, u2, u3], ha =>
              obtain ⟨h1, h2, h3, _⟩ := ha
              have h : onSome (x.onN (fun x => y.onN (fun y => c.onN (fun c => ifb (Nat.ble c 1) (some (pair64 (Nat.add (Nat.add x y) c), σ)) none) none) none) none) (fun r => some r) (add64S σ x y c) = some (v, τ) := h
              cases hk : (x.onN (fun x => y.onN (fun y => c.onN (fun c => ifb (Nat.ble c 1) (some (pair64 (Nat.add (Nat.add x y) c), σ)) none) none) none) none) with
              | none => rw [hk] at h; exact add64S_sound (P := P) hm h h1 h2 h3
              | some r =>
              rw [hk] at h
              cases h
              have h := hk
              obtain ⟨j1, n1, rfl, g1⟩ := onN_some (v := x) h
              obtain ⟨j2, n2, rfl, g2⟩ := onN_some g1
              obtain ⟨j3, n3, rfl, g3⟩ := onN_some g2
              obtain ⟨hc, g4⟩ := ifb_eq g3
              cases g4
              rw [ble_iff] at hc
              have hc : n3 ≤ 1 := by simpa using hc
              have h1 : u1 = .int j1 (n1 : Int) := h1
              have h2 : u2 = .int j2 (n2 : Int) := h2
              have h3 : u3 = .int j3 (n3 : Int) := h3
              subst h1 h2 h3
              refine ⟨Extern.MathBitsCarry.pair ((n1 + n2 + n3) % Extern.MathBitsCarry.m64) ((n1 + n2 + n3) / Extern.MathBitsCarry.m64), w, φ, ?_, ⟨_, rfl, rfl, rfl, trivial⟩, Stp.refl hm⟩
              rw [add64_run _ _ hc]
  | mapsClone =>
    cases args with
    | nil => cases h
    | cons x l =>
      cases l with
      | cons y l => cases h
      | nil =>
        obtain ⟨us⟩ := us
        cases us with
        | nil => exact ha.elim
        | cons u us =>
          cases us with
          | cons _ _ => exact ha.2.elim
          | nil =>
            obtain ⟨y, rfl, h1⟩ := onO_some (v := x) h
            cases y <;> simp only [] at h1 <;> try (cases h1; done)
            rename_i ty b
            obtain ⟨es, clock, hb, h2⟩ := onMap_some h1
            obtain ⟨m, hm1, hm2, he⟩ := newBlk_some h2
            cases he
            obtain ⟨g, hp, hu⟩ := (show VRo φ (.ifc ty b) u from ha.1)
            subst hu
            obtain ⟨_, ces, hg, hes⟩ := hm.mapAt hb hp
            have hle : φ.le (φ.set m (w.heap.size, 0) (objSize (.map ces clock))) := Phi.le_set (hm.fresh m (by omega)) fun d g o hd he => absurd (hm.low d g o hd).2 (by simp at he; omega)
            refine ⟨.iface ty (.map (some w.heap.size)), w.alloc (.map ces clock), φ.set m (w.heap.size, 0) (objSize (.map ces clock)), ?_, ⟨w.heap.size, Phi.set_same _ _ _ _, rfl⟩, hm.new hm1 hm2 _ _ ?_⟩
            · change Sem.run P (getObj g >>= _) w = _
              rw [Sem.run_bind, run_getMap P hg]
              rfl
            · intro g1 o1 hp1
              rw [Phi.set_same] at hp1; cases hp1
              exact ⟨rfl, ces, heap_alloc_new w _, hes.mono fun _ _ => ER.mono hle⟩

theorem All2.take {α β : Type} {R : α → β → Prop} (k : Nat) : ∀ {l : List α} {m : List β}, All2 R l m → All2 R (l.take k) (m.take k) := by
  induction k with
  | zero => intro l m _; exact trivial
  | succ k ih =>
    intro l m h
    cases l <;> cases m
    · exact trivial
    · exact h.elim
    · exact h.elim
    · exact ⟨h.1, ih h.2⟩

theorem cellsOfA_cells (hm : MR base φ σ w) {size n : Nat} {x : AV} {l : List Cell} {u : Value} (h : cellsOfA σ size x = some (n, l)) (hx : VR φ x u) :
    ∃ news : List Value, All2 (VRc φ) l news ∧ news.length = n * size ∧ (∀ w', (Builtin.lenOf u).run P w' = .ok n w') ∧ ∀ k, k ≤ n → (Builtin.firstCells size k u).run P w = .ok (news.take (k * size)).toArray w := by
  have slice : ∀ (y : Oth), x = .oth y → (match y with
    | .nils | .emp => some (0, [])
    | .slc b off n _ _ => onSome (rdCells σ b off (Nat.mul n size)) (fun l => some (n, l)) none
    | _ => none) = some (n, l) → ∃ news : List Value, All2 (VRc φ) l news ∧ news.length = n * size ∧ (∀ w', (Builtin.lenOf u).run P w' = .ok n w') ∧ ∀ k, k ≤ n → (Builtin.firstCells size k u).run P w = .ok (news.take (k * size)).toArray w := by
    intro y hy h1
    subst hy
    cases y <;> simp only [] at h1 <;> try (cases h1; done)
    · rename_i b off n' cap ex
      obtain ⟨l', hl, h2⟩ := onSome_eq h1
      cases h2
      obtain ⟨e, l0, rel, old, hb, hl⟩ := onCells_some hl
      obtain ⟨g, o, c, hp, rfl, _⟩ := hx
      obtain ⟨cur, hg, hcr⟩ := hm.cellsAt hb hp
      obtain ⟨hlen, us, hul, hv, hcu⟩ := hcr.sub hl
      refine ⟨us, hv, hul, fun _ => rfl, fun k hk => run_firstCells_some w size k _ _ _ _ ?_ fun j v hj => ?_⟩
      · rw [List.length_take, hul]
        have : k * size ≤ n * size := Nat.mul_le_mul_right _ hk
        show min (k * size) (n * size) = k * size
        omega
      · have hj' : us[j]? = some v := by
          rw [List.getElem?_take] at hj
          split at hj
          · exact hj
          · cases hj
        rw [Addr.add_lit]; simp [World.cell?, hg, hcu j v hj']
    · cases h1
      cases hx
      refine ⟨[], trivial, by simp, fun _ => rfl, fun k hk => ?_⟩
      simpa using run_firstCells_none (P := P) w size k 0 0
    · cases h1
      obtain ⟨a, c, rfl⟩ := hx
      refine ⟨[], trivial, by simp, fun _ => rfl, fun k hk => ?_⟩
      obtain rfl : k = 0 := by omega
      cases a with
      | none => simpa using run_firstCells_none (P := P) w size 0 0 c
      | some a => simpa using run_firstCells_some (P := P) w size 0 a 0 c [] (by simp) (by simp)
  cases x with
  | a l => cases h
  | t l => cases h
  | c x =>
    cases x with
    | i k n => cases h
    | p b o => cases h
    | b x => cases h
    | o y => exact slice y rfl h
    | s s =>
      obtain ⟨hs, h1⟩ := ifb_eq (show ifb (Nat.beq size 1) (some (s.length, s.map byteC)) none = some (n, l) from h)
      rw [beq_iff] at hs
      have hs : size = 1 := by simpa using hs
      subst hs
      cases h1
      obtain ⟨b, rfl, rfl⟩ := hx
      refine ⟨byteCells b, byteC_sound rfl, by rw [byteCells_length, nats_length, Nat.mul_one], fun _ => by rw [nats_length]; rfl, fun k hk => ?_⟩
      simp only [Builtin.firstCells, byteCells, Nat.mul_one, Sem.run_pure]
      congr 1
      apply Array.ext'
      simp

include hΓ
theorem copyB_sound (hm : MR base φ σ w) {t : TypeId} {d s v : AV} {ud us : Value} {τ : St} (h : (copyB Γ t).run σ d s = some (v, τ)) (hd : VR φ d ud) (hs : VR φ s us) (t2 ty : TypeId) :
    ∃ z w' ψ, (Builtin.copy_ #[t, t2] ty #[ud, us]).run P w = .ok z w' ∧ VR ψ v z ∧ Stp base φ σ w ψ τ w' := by
  unfold copyB at h
  split at h
  · rename_i e ht
    split at h
    · rename_i size hsz
      obtain ⟨i, hi, hi2⟩ := hΓ.size hsz
      obtain ⟨⟨n, l⟩, hq, h1⟩ := onSome_eq h
      obtain ⟨hfl, h2⟩ := ifb_eq (show ifb (flats l) _ none = some (v, τ) from h1)
      obtain ⟨y, rfl, h3⟩ := onO_some h2
      obtain ⟨news, hnew, hnl, hlen, hfc⟩ := cellsOfA_cells (P := P) hm hq hs
      have zero : ∀ (a : Option Addr) (c : Nat), ∃ z w' ψ, (Builtin.copy_ #[t, t2] ty #[.slice a 0 c, us]).run P w = .ok z w' ∧ VR ψ (len64 0) z ∧ Stp base φ σ w ψ σ w' := fun a c => by
        refine ⟨goInt 0, w, φ, ?_, len64_sound 0, Stp.refl hm⟩
        have h0 := hfc 0 (Nat.zero_le _)
        simp only [Nat.zero_mul, List.take_zero] at h0
        cases a <;> simp [Builtin.copy_, run_underlying (hΓ.und ht), hlen, sizeOf, typeInfo, hi, hi2, h0, storeCells]
      cases y <;> simp only [] at h3 <;> try (cases h3; done)
      · rename_i b off len cap ex
        obtain ⟨g, o, c, hp, rfl, hcap, hex, hlc, hun⟩ := hd
        have hmin : ifb (Nat.ble n len) n len = min n len := by
          cases hb : Nat.ble n len with
          | true => rw [ble_iff] at hb; have : n ≤ len := by simpa using hb
                    show n = min n len; omega
          | false => rw [ble_iff] at hb; have : ¬ n ≤ len := by simpa using hb
                     show len = min n len; omega
        rw [hmin] at h3
        have hfc' := hfc (min n len) (by omega)
        split at h3
        · rename_i h0
          cases h3
          rw [h0] at hfc'
          simp only [Nat.zero_mul, List.take_zero] at hfc'
          refine ⟨goInt 0, w, φ, ?_, len64_sound 0, Stp.refl hm⟩
          simp [Builtin.copy_, run_underlying (hΓ.und ht), hlen, sizeOf, typeInfo, hi, hi2, Nat.min_def] at hfc' ⊢
          have : Nat.min n len = 0 := h0
          simp [Nat.min_def] at this
          simp [this, hfc', storeCells]
        · rename_i k h0
          obtain ⟨new, hnt, h4⟩ := onSome_eq h3
          obtain ⟨τ', hw, h5⟩ := onSome_eq h4
          cases h5
          obtain ⟨rfl, hle⟩ := takeN_some hnt
          have hn2 : All2 (VRc φ) (l.take ((k + 1) * size)) (news.take ((k + 1) * size)) := hnew.take _
          rw [h0] at hfc'
          obtain ⟨cur, e', hg, hsz', hne, hst⟩ := wrCells_sound hm hw hp hn2
          have hone : ∀ u ∈ news.take ((k + 1) * size), u.oneCell' = true := fun u hu => flats_one hfl hnew u (List.mem_of_mem_take hu)
          have hrun := run_storeCells_spliced P hg hsz' hone
          refine ⟨goInt (k + 1 : Nat), _, φ, ?_, len64_sound _, hst⟩
          have hmn : Nat.min n len = k + 1 := h0
          simp [Builtin.copy_, run_underlying (hΓ.und ht), hlen, sizeOf, typeInfo, hi, hi2, hmn, hfc']
          simpa using congrArg (fun r => r.andThen fun _ w' => Result.ok (goInt ((k : Int) + 1)) w') hrun
      · cases h3
        have hd : ud = .slice none 0 0 := hd
        subst hd
        exact zero _ _
      · cases h3
        obtain ⟨a, c, rfl⟩ := hd
        exact zero _ _
    · cases h
  · cases h

omit hΓ in
theorem liesAt_row {e : TypeId} (hc : P.cellsOf e = 1) (count off n : Nat) (hn : off + n ≤ count) : liesAt P P.depth e count off e n = true := by
  have hd : P.depth = (2 * (P.types.size + Made.depth) + 1) + 1 := rfl
  rw [hd]
  simp only [liesAt, Bool.or_eq_true]
  left
  rw [hd]
  simp [rowAt, hc, hn, sameLayout, Nat.mod_one]

theorem unsafeStrB_sound (hm : MR base φ σ w) {t : TypeId} {d s v : AV} {ud us : Value} {τ : St} (h : (unsafeStrB Γ t).run σ d s = some (v, τ)) (hd : VR φ d ud) (hs : VR φ s us) (t2 ty : TypeId) :
    ∃ z w' ψ, (Builtin.unsafeString_ #[t, t2] ty #[ud, us]).run P w = .ok z w' ∧ VR ψ v z ∧ Stp base φ σ w ψ τ w' := by
  unfold unsafeStrB at h
  split at h
  · rename_i e ht
    split at h
    · rename_i hsz
      obtain ⟨i, hi, hi2⟩ := hΓ.size hsz
      obtain ⟨j, n, rfl, h1⟩ := onN_some h
      have hs : us = .int j (n : Int) := hs
      subst hs
      have hmax : IntKind.i64.max = 9223372036854775807 := rfl
      have hdef : ∀ p : Option Addr, Builtin.unsafeString_ #[t, t2] ty #[.pointer p, .int j (n : Int)] =
        (do
          let n ← asInt (.int j (n : Int))
          if n < 0 then runtimePanic (.error "unsafe.String: len out of range")
          if n > IntKind.i64.max then unsupported (.unsafePointer "String: a length above the largest int")
          match p with
          | none => if n = 0 then pure (.string .empty) else runtimePanic (.error "unsafe.String: ptr is nil and len is not zero")
          | some a =>
            if n = 0 then pure (.string .empty)
            else if ← variablesAt a (← elemOf t) n.toNat then do
              let s ← loadBytes a .empty n.toNat
              freeze a n.toNat
              pure (.string s)
            else unsupported (.unsafePointer "String: not so many bytes at ptr")) := fun p => rfl
      split at h1
      · have empty : ∀ p, ud = .pointer p → ∃ z w' ψ, (Builtin.unsafeString_ #[t, t2] ty #[ud, .int j ((0 : Nat) : Int)]).run P w = .ok z w' ∧ VR ψ (.str []) z ∧ Stp base φ σ w ψ σ w' := by
          intro p hp
          subst hp
          refine ⟨.string .empty, w, φ, ?_, ⟨_, rfl, rfl⟩, Stp.refl hm⟩
          rw [hdef]
          cases p <;> simp [asInt, asIntOf, hmax]
        cases d with
        | a l => cases h1
        | t l => cases h1
        | c x =>
          cases x with
          | i k n => cases h1
          | b x => cases h1
          | s s => cases h1
          | p b o =>
            cases h1
            obtain ⟨g, o', _, hu⟩ := hd
            exact empty _ hu
          | o y =>
            cases y <;> try (cases h1; done)
            cases h1
            exact empty none hd
      · rename_i n
        obtain ⟨b, off, rfl, h2⟩ := onP_some h1
        obtain ⟨e', l, rel, old, hb, h3⟩ := onCells_some h2
        obtain ⟨hcond, h4⟩ := ifb_eq h3
        have hold : old = false := by cases old; rfl; cases hcond
        subst hold
        obtain ⟨he, hlt⟩ := ifb_and (show ifb (Nat.beq e e') (Nat.blt (Nat.succ n) 16777216) false = true from hcond)
        rw [beq_iff] at he
        have he : e = e' := by simpa using he
        subst he
        rw [Nat.blt_eq] at hlt
        obtain ⟨r, hr, h5⟩ := onSome_eq h4
        obtain ⟨bs, hbs, h6⟩ := onSome_eq h5
        cases h6
        obtain ⟨g, o, hp, rfl⟩ := hd
        have hp : φ b = some (g, o) := hp
        obtain ⟨cur, hg, hcr⟩ := hm.cellsAt hb hp
        obtain ⟨hrl, us, hul, hv, hcu⟩ := hcr.sub hr
        obtain ⟨ns, rfl, rfl, hnb⟩ := bytesOf_sound hbs hv
        have hnl : ns.length = n + 1 := by simpa using hul
        have hns : ∀ j (x : UInt8), (ns.map fun n : Int => n.toNat.toUInt8)[j]? = some x → w.cell? ((⟨g, o + off, none⟩ : Addr).add j) = some (.int .u8 x.toNat) := by
          intro j x hj
          rw [List.getElem?_map] at hj
          cases hx : ns[j]? with
          | none => rw [hx] at hj; cases hj
          | some y =>
            rw [hx] at hj
            simp only [Option.map_some, Option.some.injEq] at hj
            have hy := hnb y (List.mem_of_getElem? hx)
            have := hcu j (.int .u8 y) (by rw [List.getElem?_map, hx]; rfl)
            rw [Addr.add_lit]
            have e1 : ((x.toNat : Nat) : Int) = y := by
              rw [← hj]
              simp [UInt8.toNat_ofNat']
              omega
            simp [World.cell?, hg, this, e1]
        have hlb := Lib.run_loadBytes (P := P) w (ns.map fun n : Int => n.toNat.toUInt8) ⟨g, o + off, none⟩ .empty hns
        rw [List.length_map, hnl] at hlb
        have hbig : off + (n + 1) ≤ l.length := by
          rw [dropN_eq] at hr
          obtain ⟨_, h7⟩ := takeN_some hr
          simp at h7; omega
        have hsize : o + off + (n + 1) ≤ cur.size := by
          have := hcu n (.int .u8 (ns[n]'(by omega))) (by rw [List.getElem?_map, List.getElem?_eq_getElem (by omega)]; rfl)
          have := (Array.getElem?_eq_some_iff.1 this).1
          omega
        have hce : P.cellsOf e = 1 := by simp [Program.cellsOf, hi, hi2]
        have hlies := liesAt_row (P := P) hce (cur.size / P.cellsOf e) (o + off) (n + 1) (by rw [hce]; simpa using hsize)
        have hlive : live σ b := by unfold live; rw [hb]; simp
        refine ⟨.string ⟨(ByteArray.empty.data ++ (ns.map fun n : Int => n.toNat.toUInt8).toArray)⟩, w.freeze ⟨g, o + off, none⟩ (n + 1), φ, ?_, ⟨_, rfl, ?_⟩, ?_⟩
        · rw [hdef]
          have hneg : ¬ ((n : Int) + 1) < 0 := by omega
          have h63 : ¬ (9223372036854775807 : Int) < (n : Int) + 1 := by omega
          have hne0 : ¬ ((n : Int) + 1) = 0 := by omega
          have htn : ((n : Int) + 1).toNat = n + 1 := by omega
          simp [asInt, asIntOf, hmax, h63, hneg, hne0, htn, variablesAt, World.shape?, hg, elemOf, run_underlying (hΓ.und ht), hlies, hlb]
        · simp only [nats]
          simp
          intro a ha
          have := hnb a ha
          omega
        · have hst := hm.turn (u := w.freeze ⟨g, o + off, none⟩ (n + 1)) hlive hp (by rw [hb]; rfl) .none trivial (by simp [World.freeze]) (fun k hk => by
            simp [World.freeze, Array.getElem?_modify]; intro h; exact absurd h.symm hk) rfl rfl rfl rfl
          rw [hb] at hst
          exact hst
    · cases h
  · cases h
theorem opB_write {o : Oper} {f : T → St → Option (AV × St)} (ho : opB P Γ o = .w f) (hm : MR base φ σ w) {t : T} {a : Act} (hx : ∀ x ∈ o.op.operands, OR φ t a.eval x)
    {v : AV} {τ : St} (h : f t σ = some (v, τ)) : Did P φ base σ w (execOp a.eval o) v τ := by
  obtain ⟨dst, op, type, pos, after, guard⟩ := o
  rw [opB_eq] at ho
  cases op <;> simp only [opB0, Bx.use_eq] at ho <;> simp only [Op.operands] at hx <;> try (cases ho; done)
  case store ty x y =>
    cases ho
    obtain ⟨h1, rfl⟩ := unitS_some h
    exact Did.unit (storeB_sound hΓ hm h1 (hx x (by simp)) (hx y (by simp)))
  case mapUpdate ty m k x =>
    cases ho
    obtain ⟨h1, rfl⟩ := unitS_some h
    exact Did.unit (mapUpdateB_sound hΓ hm h1 (hx m (by simp)) (hx k (by simp)) (hx x (by simp)))
  case insert ty m k x =>
    cases ho
    obtain ⟨h1, rfl⟩ := unitS_some h
    exact Did.unit (mapUpdateB_sound hΓ hm h1 (hx m (by simp)) (hx k (by simp)) (hx x (by simp)))
  case entryStore ty m k x =>
    cases ho
    obtain ⟨h1, rfl⟩ := unitS_some h
    exact Did.unit (entryStoreA_sound hm h1 (hx m (by simp)) (hx k (by simp)) (hx x (by simp)) ty)
  case mapEntry ty m k =>
    cases ho
    obtain ⟨u, w', h1, h2, h3⟩ := mapEntryB_sound hΓ hm h (hx m (by simp)) (hx k (by simp))
    exact Did.val ⟨u, w', φ, h1, h2, h3⟩
  case range ty x =>
    cases ho
    exact Did.val (rangeB_sound hΓ hm h (hx x (by simp)))
  case alloc => split at ho <;> cases ho
  case makeMap ty r =>
    cases r <;> simp only at ho
    · cases ho
    · split at ho <;> cases ho
  case makeInterface => split at ho <;> cases ho
  case makeFunc fn _ _ => cases fn <;> simp only at ho <;> cases ho
  case typeAssert => split at ho <;> cases ho
  case next it is => cases is <;> cases ho
  case call c =>
    obtain ⟨callee, args, argTypes⟩ := c
    cases callee with
    | value f =>
      cases f <;> simp only at ho <;> try (cases ho; done)
      rename_i f
      split at ho
      · rename_i e he
        cases ho
        obtain ⟨fn, hf, hb, hn, hf1, hf2⟩ := hΓ.ext f e he
        have hargs : All2 (VR φ) ((opersB args.toList).run t) (args.map a.eval).toList := by
          rw [Array.map_toList_eq]; exact opersB_sound fun x hxx => hx x (by simp [Call.operands]; right; simpa using hxx)
        obtain ⟨z, w', ψ, h1, h2, h3⟩ := extA_sound (P := P) hm h hargs
        refine ⟨.value z, z, w', ψ, ?_, .inl rfl, h2, h3⟩
        have hn' : ¬ fn.name = "runtime.NumGoroutine" := by simpa using hn
        simp [execOp, resolve, Act.eval, Deferred.ofValue, invoke, callFunc, hf, hn', hb, hf1, hf2, h1]
      · cases ho
    | invoke r n => simp only at ho; cases ho
    | builtin b =>
      simp only at ho
      obtain ⟨cs, hcs⟩ := exec_builtin a.eval dst b args argTypes type pos after guard
      rw [hcs]
      obtain ⟨args⟩ := args
      obtain ⟨argTypes⟩ := argTypes
      split at ho <;> first
        | (cases ho; done)
        | (split at ho <;> cases ho; done)
        | skip
      · -- append
        rename_i s x t1 t2 harg hty
        simp only at harg hty
        subst harg hty
        cases ho
        have := appendB_sound hΓ hm h (hx s (by simp [Call.operands])) (hx x (by simp [Call.operands])) type
        have e : Array.map a.eval ⟨[s, x]⟩ = #[a.eval s, a.eval x] := by simp
        rw [e]
        exact Did.val this
      · -- copy
        rename_i d s t1 t2 harg hty
        simp only at harg hty
        subst harg hty
        cases ho
        have e : Array.map a.eval ⟨[d, s]⟩ = #[a.eval d, a.eval s] := by simp
        rw [e]
        exact Did.val (copyB_sound hΓ hm h (hx d (by simp [Call.operands])) (hx s (by simp [Call.operands])) t2 type)
      · -- clear
        rename_i x t1 harg hty
        simp only at harg hty
        subst harg hty
        cases ho
        obtain ⟨h1, rfl⟩ := unitS_some h
        obtain ⟨w', h2, h3⟩ := clearB_sound hΓ hm h1 (hx x (by simp [Call.operands])) type
        have e : Array.map a.eval ⟨[x]⟩ = #[a.eval x] := by simp
        rw [e]
        exact Did.val ⟨_, w', φ, h2, unit_sound φ, h3⟩
      · -- delete
        rename_i m k t1 t2 harg hty
        simp only at harg hty
        subst harg hty
        cases ho
        obtain ⟨h1, rfl⟩ := unitS_some h
        obtain ⟨w', h2, h3⟩ := deleteB_sound hΓ hm h1 (hx m (by simp [Call.operands])) (hx k (by simp [Call.operands])) t2 type
        have e : Array.map a.eval ⟨[m, k]⟩ = #[a.eval m, a.eval k] := by simp
        rw [e]
        exact Did.val ⟨_, w', φ, h2, unit_sound φ, h3⟩
      · -- unsafe.String
        rename_i q n t1 t2 harg hty
        simp only at harg hty
        subst harg hty
        cases ho
        have e : Array.map a.eval ⟨[q, n]⟩ = #[a.eval q, a.eval n] := by simp
        rw [e]
        exact Did.val (unsafeStrB_sound hΓ hm h (hx q (by simp [Call.operands])) (hx n (by simp [Call.operands])) t2 type)
end
end Go.Ev
