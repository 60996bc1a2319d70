/-
  Operations that write: stores, maps.
-/
import Derived.Test.YtjjnhpoemcihgaaGreatEvm
namespace Go.Ev

section
variable {P : Program} {Γ : Tab} (hΓ : TabOk P Γ) {φ : Phi} {base : Nat} {σ : St} {w : World}

theorem run_storeCells_spliced (P : Program) {w : World} {g k : Nat} {t : TypeId} {cur : Array Value} {us : List Value} (hg : w.heap[g]? = some (.cells cur t (0, 0))) (hl : k + us.length ≤ cur.size) (h1 : ∀ v ∈ us, v.oneCell' = true) :
    (storeCells ⟨g, k, none⟩ us).run P w = .ok () (w.setRow g (spliced cur k us)) := by
  have := run_storeCells_at P g k t us 0 cur w hg (by simpa using hl) h1
  simpa [spliced] using this

include hΓ
theorem storeB_sound (hm : MR base φ σ w) {t : TypeId} {x y : AV} {τ : St} {ux uy : Value} (h : (storeB Γ t).run σ x y = some τ) (hx : VR φ x ux) (hy : VR φ y uy) :
    ∃ w', (Instr.storeAt t ux uy).run P w = .ok () w' ∧ Stp base φ σ w φ τ w' := by
  unfold storeB at h
  cases hs : Γ.size t with
  | none => rw [hs] at h; cases h
  | some n =>
    simp only [hs] at h
    obtain ⟨b, off, rfl, h1⟩ := onP_some h
    obtain ⟨cs, hcs, h2⟩ := onSome_eq h1
    obtain ⟨hb, h3⟩ := ifb_eq h2
    obtain ⟨hlen, hfl⟩ := ifb_and hb
    rw [beq_iff] at hlen
    have hlen : cs.length = n := by simpa using hlen
    obtain ⟨g, o, hp, rfl⟩ := hx
    have hv := cells_of hcs hy
    obtain ⟨i, hi, hsi⟩ := hΓ.size hs
    have hsize : uy.cells.size = i.size := by rw [hsi, ← hlen, hv.length]; simp
    cases hemp : cs.isEmpty with
    | true =>
      rw [hemp] at h3
      cases h3
      have hc0 : cs = [] := by simpa using hemp
      have hu0 : uy.cells.toList = [] := by
        have := hv.length
        rw [hc0] at this
        cases h : uy.cells.toList with
        | nil => rfl
        | cons a l => rw [h] at this; simp at this
      refine ⟨w, ?_, Stp.refl hm⟩
      simp [Instr.storeAt, Instr.sureAddr, storeVar, sizeOf, typeInfo, hi, hsize, hu0, storeCells]
    | false =>
    rw [hemp] at h3
    have h3 : wrCells σ b off cs = some τ := h3
    obtain ⟨cur, e, hg, hsz, hne, hst⟩ := wrCells_sound hm h3 hp hv
    refine ⟨_, ?_, hst⟩
    have hrun := run_storeCells_spliced P hg hsz (flats_one hfl hv)
    simp [Instr.storeAt, Instr.sureAddr, storeVar, sizeOf, typeInfo, hi, hsize]
    simpa using hrun

/-! ### maps -/
omit hΓ in
theorem setN_sound {R : AV × AV × Nat → MapEntry → Prop} {x : AV × AV × Nat} {f : MapEntry → MapEntry} : ∀ {es : List (AV × AV × Nat)} {cs : List MapEntry} {i : Nat}, All2 R es cs → (∀ c, cs[i]? = some c → R x (f c)) → All2 R (setN i x es) (cs.modify i f)
  | [], [], i, _, _ => by cases i <;> trivial
  | e :: es, c :: cs, 0, h, hx => ⟨hx c rfl, h.2⟩
  | e :: es, c :: cs, i + 1, h, hx => ⟨h.1, setN_sound h.2 fun d hd => hx d (by simpa using hd)⟩
omit hΓ in
theorem delN_sound {R : AV × AV × Nat → MapEntry → Prop} : ∀ {es : List (AV × AV × Nat)} {cs : List MapEntry} {i : Nat}, All2 R es cs → All2 R (delN i es) (cs.eraseIdx i)
  | [], [], i, _ => by cases i <;> trivial
  | e :: es, c :: cs, 0, h => h.2
  | e :: es, c :: cs, i + 1, h => ⟨h.1, delN_sound h.2⟩

omit hΓ in
theorem sameC_sound {x y : Cell} {u v : Value} (h : sameC x y = true) (hx : VRc φ x u) (hy : VRc φ y v) : u = v ∧ ∀ n, Instr.sameBits n u v = true := by
  unfold sameC at h
  split at h
  · rename_i k a j b
    obtain ⟨h1, h2⟩ := ifb_and h
    have hx : u = .int k a := hx
    have hy : v = .int j b := hy
    rw [eqK_eq] at h1
    rw [eqI_eq] at h2
    have h2 : a = b := by simpa using h2
    subst h1; subst h2; subst hx; subst hy
    exact ⟨rfl, fun n => by cases n <;> simp [Instr.sameBits]⟩
  · rename_i a b
    have hx : u = .bool a := hx
    have hy : v = .bool b := hy
    have : a = b := by cases a <;> cases b <;> simp [ifb] at h <;> rfl
    subst this; subst hx; subst hy
    exact ⟨rfl, fun n => by cases n <;> simp [Instr.sameBits]⟩
  · rename_i a b
    obtain ⟨s, rfl, hs⟩ := hx
    obtain ⟨s', rfl, hs'⟩ := hy
    rw [eqNats_eq] at h
    have hab : nats s = nats s' := by rw [hs, hs']; simpa using h
    have hab : s.data.toList = s'.data.toList := (List.map_inj_right (f := UInt8.toNat) fun a b e => UInt8.toNat_inj.1 e).1 hab
    have : s = s' := ByteArray.ext (Array.toList_inj.1 hab)
    subst this
    exact ⟨rfl, fun n => by cases n <;> simp [Instr.sameBits, Go.MapKept.bytes_beq]⟩
  · cases h
omit hΓ in
theorem sameCs_sound : ∀ {l m : List Cell} {us vs : List Value}, sameCs l m = true → All2 (VRc φ) l us → All2 (VRc φ) m vs → us = vs ∧ ∀ n, (us.zip vs).all (fun (x, y) => Instr.sameBits n x y) = true
  | [], [], [], [], _, _, _ => ⟨rfl, fun _ => rfl⟩
  | x :: l, y :: m, u :: us, v :: vs, h, hl, hm => by
    obtain ⟨h1, h2⟩ := ifb_and h
    obtain ⟨h3, h4⟩ := sameC_sound h1 hl.1 hm.1
    obtain ⟨h5, h6⟩ := sameCs_sound h2 hl.2 hm.2
    subst h3; subst h5
    exact ⟨rfl, fun n => by rw [List.zip_cons_cons, List.all_cons, h6 n]; simp [h4 n]⟩
omit hΓ in
theorem sameA_sound {x y : AV} {u v : Value} (h : sameA x y = true) (hx : VR φ x u) (hy : VR φ y v) : u = v ∧ Instr.sameBits 10000 u v = true := by
  unfold sameA at h
  split at h
  · obtain ⟨a, b⟩ := sameC_sound h hx hy
    exact ⟨a, b _⟩
  · obtain ⟨us, rfl, hus⟩ := hx
    obtain ⟨vs, rfl, hvs⟩ := hy
    obtain ⟨a, b⟩ := sameCs_sound h hus hvs
    have : us = vs := Array.toList_inj.1 a
    subst this
    exact ⟨rfl, by simp only [Instr.sameBits, beq_self_eq_true, Bool.true_and]; exact b _⟩
  · cases h
omit hΓ in
theorem keyStays {x y : AV} {u v : Value} (h : sameA x y = true) (hx : VR φ x u) (hy : VR φ y v) (w : World) : (Instr.keyThatStays u v).run P w = .ok v w := by
  simp [Instr.keyThatStays, (sameA_sound h hx hy).2]

/-- A block that is no row, written. -/
def putObj (w : World) (g : Nat) (o : Obj) : World := { w with heap := w.heap.setIfInBounds g o }
omit hΓ in
theorem run_putMap {g : Nat} {es : Array MapEntry} {c : Nat} (o : Obj) (h : w.heap[g]? = some (.map es c)) : (setObj g o).run P w = .ok () (putObj w g o) := by
  simp [setObj, Sem.run, h, putObj]
omit hΓ in
theorem run_putIter {g : Nat} {m : Option Nat} {a c : Nat} {s : Array Nat} (o : Obj) (h : w.heap[g]? = some (.mapIter m a s c)) : (setObj g o).run P w = .ok () (putObj w g o) := by
  simp [setObj, Sem.run, h, putObj]

omit hΓ in
/-- A map is written. -/
theorem mapPut_sound (hm : MR base φ σ w) {b g : Nat} {es es' : List (AV × AV × Nat)} {clock clock' : Nat} (hb : hget σ b = .map es clock) (hp : φ b = some (g, 0)) {ces : Array MapEntry}
    (hr : All2 (ER φ) es' ces.toList) : Stp base φ σ w φ (mapPut σ b es' clock') (putObj w g (.map ces clock')) := by
  have hlt := (hm.low b g 0 hp).2
  have hh : mapPut σ b es' clock' = ⟨hput (kill (hget σ b).rel σ.heap) b (.map es' clock'), σ.next, lowd b (hget σ b).rel σ.dirty⟩ := by
    rw [hb]; cases σ; rfl
  rw [hh]
  refine hm.turn (u := putObj w g (.map ces clock')) (by unfold live; rw [hb]; simp) hp (by rw [hb]; rfl) _ ?_ (by simp [putObj]) (fun k hk => by simp [putObj, Array.getElem?_setIfInBounds_ne (Ne.symm hk)]) rfl rfl rfl rfl
  intro g1 o1 hp1
  rw [hp] at hp1; cases hp1
  exact ⟨rfl, ces, by simp [putObj, hlt], hr⟩

theorem findAt (hm : MR base φ σ w) {kt : TypeId} {k : AV} {uk : Value} (hk : VR φ k uk) {d : TypeDesc} (hd : Γ.und kt = some d) {es : List (AV × AV × Nat)} {ces : Array MapEntry} (hes : All2 (ER φ) es ces.toList)
    {r : Option (Nat × AV × Nat)} (h : findE ((eqB P Γ 10000 kt).run (factsOf σ)) k es 0 = some r) :
    match r with
    | none => (Instr.findKey kt uk ces.toList).run P w = .ok none w
    | some (j, v, born) => ∃ u c, (Instr.findKey kt uk ces.toList).run P w = .ok (some (j, u)) w ∧ VR φ v u ∧ ces[j]? = some c ∧ c.val = u ∧ c.born = born ∧ ∃ e, es[j]? = some e ∧ ER φ e c := by
  have := findE_sound hΓ hm.factsHold hk es ces.toList 0 r w h hes
  cases r with
  | none => exact findKey_of_asking (hΓ.und hd) this
  | some q =>
    obtain ⟨j, v, born⟩ := q
    obtain ⟨u, c, h1, h2, _, h4, h5, h6, e, he, _⟩ := this
    obtain ⟨c', hc', hr⟩ := hes.get he
    rw [Nat.sub_zero] at h4 hc' he
    rw [h4] at hc'; cases hc'
    exact ⟨u, c, findKey_of_asking (hΓ.und hd) h1, h2, by simpa using h4, h5, h6, e, he, hr⟩

omit hΓ in
theorem keyOk_und {kt : TypeId} {k : AV} {n : Nat} (h : (keyOkB Γ (n + 1) kt).run k = true) : ∃ d, Γ.und kt = some d := by
  unfold keyOkB at h
  cases hd : Γ.und kt with
  | none => rw [hd] at h; cases h
  | some d => exact ⟨d, rfl⟩

theorem mapUpdateB_sound (hm : MR base φ σ w) {t : TypeId} {m k v : AV} {um uk uv : Value} {τ : St} (h : (mapUpdateB P Γ t).run σ m k v = some τ) (h1 : VR φ m um) (h2 : VR φ k uk) (h3 : VR φ v uv) :
    ∃ w', (Instr.mapUpdate t um uk uv).run P w = .ok () w' ∧ Stp base φ σ w φ τ w' := by
  unfold mapUpdateB at h
  split at h
  · rename_i kt et ht
    obtain ⟨x, rfl, g1⟩ := onO_some h
    cases x <;> simp only [] at g1 <;> try (cases g1; done)
    rename_i b
    obtain ⟨hok, g2⟩ := ifb_eq g1
    obtain ⟨es, clock, hb, g3⟩ := onMap_some g2
    obtain ⟨r, hr, g4⟩ := onSome_eq g3
    obtain ⟨g, hp, rfl⟩ := h1
    obtain ⟨_, ces, hg, hes⟩ := hm.mapAt hb hp
    obtain ⟨d, hd⟩ := keyOk_und hok
    have hck := keyOkB_sound hΓ 10000 kt k uk false w hok h2
    have hf := findAt hΓ hm h2 hd hes hr
    cases r with
    | none =>
      cases g4
      have hf : (Instr.findKey kt uk ces.toList).run P w = .ok none w := hf
      refine ⟨putObj w g (.map (ces.push { key := uk, val := uv, born := clock }) (clock + 1)), ?_, mapPut_sound hm hb hp (by simpa using hes.append (l' := [(k, v, clock)]) (m' := [{ key := uk, val := uv, born := clock }]) ⟨⟨h2, h3, rfl⟩, trivial⟩)⟩
      simp [Instr.mapUpdate, run_underlying (hΓ.und ht), run_getMap P hg, hck, hf, run_putMap _ hg]
    | some q =>
      obtain ⟨j, v0, born⟩ := q
      obtain ⟨e, he, g5⟩ := onSome_eq g4
      obtain ⟨hs, g6⟩ := ifb_eq g5
      cases g6
      obtain ⟨u, c, f1, f2, f3, f4, f5, e', he', f6⟩ := hf
      rw [nth_eq] at he
      simp only at he
      rw [he'] at he; cases he
      have hstay := keyStays (P := P) hs f6.1 h2 w
      refine ⟨putObj w g (.map (ces.modify j fun e => { e with key := uk, val := uv }) clock), ?_, mapPut_sound hm hb hp ?_⟩
      · simp [Instr.mapUpdate, run_underlying (hΓ.und ht), run_getMap P hg, hck, f1, f3, hstay, run_putMap _ hg]
      · rw [Array.toList_modify]
        refine setN_sound hes fun c' hc' => ?_
        rw [Array.getElem?_toList, f3] at hc'
        cases hc'
        exact ⟨h2, h3, f5⟩
  · cases h
end
end Go.Ev
