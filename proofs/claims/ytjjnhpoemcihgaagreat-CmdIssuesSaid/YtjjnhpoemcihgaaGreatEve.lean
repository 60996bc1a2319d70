/-
  The evaluator's lists and blocks: cells read and written.
-/
import Derived.Test.YtjjnhpoemcihgaaGreatEvd
namespace Go.Ev

theorem takeN_some {α : Type} : ∀ {n : Nat} {l r : List α}, takeN n l = some r → r = l.take n ∧ n ≤ l.length
  | 0, l, r, h => by simp [takeN] at h; subst h; simp
  | n + 1, [], r, h => by simp [takeN] at h
  | n + 1, a :: l, r, h => by
    simp only [takeN] at h
    cases hh : takeN n l with
    | none => rw [hh] at h; simp at h
    | some l' =>
      rw [hh] at h; simp at h; subst h
      have := takeN_some hh
      simp [this.1, this.2]
theorem dropN_eq {α : Type} : ∀ (n : Nat) (l : List α), dropN n l = l.drop n
  | 0, l => by simp [dropN]
  | n + 1, [] => by simp [dropN]
  | n + 1, _ :: l => by simp [dropN, dropN_eq n l]
theorem nth_eq {α : Type} : ∀ (n : Nat) (l : List α), nth n l = l[n]?
  | 0, [] => rfl
  | 0, _ :: _ => rfl
  | n + 1, [] => rfl
  | n + 1, _ :: l => by simp [nth, nth_eq n l]

theorem setAll_some : ∀ {n : Nat} {l vs r : List Cell}, vs ≠ [] → setAll n l vs = some r →
    r.length = l.length ∧ n + vs.length ≤ l.length ∧ ∀ i, r[i]? = if n ≤ i ∧ i < n + vs.length then vs[i - n]? else l[i]?
  | 0, l, [], _, hv, _ => absurd rfl hv
  | 0, [], _ :: _, _, _, h => by simp [setAll] at h
  | 0, a :: l, v :: vs, r, _, h => by
    simp only [setAll] at h
    cases hh : setAll 0 l vs with
    | none => rw [hh] at h; simp at h
    | some l' =>
      rw [hh] at h; simp at h; subst h
      cases vs with
      | nil =>
        have : l' = l := by cases l <;> simp [setAll] at hh <;> simp_all
        subst this
        refine ⟨by simp, by simp, fun i => ?_⟩
        cases i <;> simp
      | cons u us =>
        have := setAll_some (by simp) hh
        refine ⟨by simp [this.1], by simp at this ⊢; omega, fun i => ?_⟩
        cases i with
        | zero => simp
        | succ i =>
          have e := this.2.2 i
          simp only [Nat.zero_le, true_and, Nat.zero_add, Nat.sub_zero] at e
          simp only [List.getElem?_cons_succ, e, List.length_cons, Nat.zero_le, true_and, Nat.zero_add, Nat.sub_zero]
          by_cases hi : i < us.length + 1 <;> simp [hi] <;> omega
  | n + 1, [], _, _, _, h => by simp [setAll] at h
  | n + 1, a :: l, vs, r, hv, h => by
    have h' : onSome (setAll n l vs) (fun l => some (a :: l)) none = some r := by
      cases vs with
      | nil => exact absurd rfl hv
      | cons u us => simpa [setAll] using h
    cases hh : setAll n l vs with
    | none => rw [hh] at h'; simp at h'
    | some l' =>
      rw [hh] at h'; simp at h'; subst h'
      have := setAll_some hv hh
      refine ⟨by simp [this.1], by simp; omega, fun i => ?_⟩
      cases i with
      | zero => simp
      | succ i =>
        simp only [List.getElem?_cons_succ, this.2.2 i]
        by_cases hi : n ≤ i ∧ i < n + vs.length
        · rw [if_pos hi, if_pos (by omega)]; congr 1; omega
        · rw [if_neg hi, if_neg (by omega)]

theorem setAll_nil : ∀ {n : Nat} {l r : List Cell}, setAll n l [] = some r → n ≤ l.length ∧ r = l
  | 0, l, r, h => by cases l <;> simp [setAll] at h <;> simp_all
  | n + 1, [], r, h => by simp [setAll] at h
  | n + 1, a :: l, r, h => by
    simp only [setAll] at h
    cases hh : setAll n l [] with
    | none => rw [hh] at h; simp at h
    | some l' =>
      rw [hh] at h; simp at h; subst h
      have := setAll_nil hh
      exact ⟨by simp; omega, by rw [this.2]⟩

theorem onCells_some {α : Type} {x : ABlk} {k : TypeId → List Cell → List Nat → Bool → Option α} {r : α} (h : x.onCells k none = some r) :
    ∃ e l rel old, x = .cells e l rel old ∧ k e l rel old = some r := by
  cases x <;> simp [ABlk.onCells] at h
  exact ⟨_, _, _, _, rfl, h⟩
theorem onMap_some {α : Type} {x : ABlk} {k : List (AV × AV × Nat) → Nat → Option α} {r : α} (h : x.onMap k none = some r) :
    ∃ es c, x = .map es c ∧ k es c = some r := by
  cases x <;> simp [ABlk.onMap] at h
  exact ⟨_, _, rfl, h⟩
theorem onIter_some {α : Type} {x : ABlk} {k : Option Nat → Nat → List Nat → Nat → Option α} {r : α} (h : x.onIter k none = some r) :
    ∃ m s l t, x = .iter m s l t ∧ k m s l t = some r := by
  cases x <;> simp [ABlk.onIter] at h
  exact ⟨_, _, _, _, rfl, h⟩
theorem onSome_eq {α β : Type} {o : Option β} {k : β → Option α} {r : α} (h : onSome o k none = some r) : ∃ b, o = some b ∧ k b = some r := by
  cases o <;> simp at h
  exact ⟨_, rfl, h⟩
theorem ifb_eq {α : Type} {c : Bool} {t : Option α} {r : α} (h : ifb c t none = some r) : c = true ∧ t = some r := by
  cases c <;> simp at h
  exact ⟨rfl, h⟩
theorem ifb_and {a b : Bool} (h : ifb a b false = true) : a = true ∧ b = true := by
  cases a <;> simp [ifb] at h ⊢; exact h
theorem ifb_none {α : Type} {c : Bool} {e : Option α} {r : α} (h : ifb c none e = some r) : c = false ∧ e = some r := by
  cases c <;> simp at h
  exact ⟨rfl, h⟩

section
variable {α : Type} {v : AV} {r : α}
theorem onP_some {k : Nat → Nat → Option α} (h : v.onP k none = some r) : ∃ b o, v = .ptr b o ∧ k b o = some r := by
  cases v with
  | c x => cases x <;> simp [AV.onP] at h; exact ⟨_, _, rfl, h⟩
  | a l => simp [AV.onP] at h
  | t l => simp [AV.onP] at h
theorem onI_some {k : IntKind → Int → Option α} (h : v.onI k none = some r) : ∃ j n, v = .int j n ∧ k j n = some r := by
  cases v with
  | c x => cases x <;> simp [AV.onI] at h; exact ⟨_, _, rfl, h⟩
  | a l => simp [AV.onI] at h
  | t l => simp [AV.onI] at h
theorem onN_some {k : Nat → Option α} (h : v.onN k none = some r) : ∃ j n, v = .int j (.ofNat n) ∧ k n = some r := by
  obtain ⟨j, n, rfl, h⟩ := onI_some h
  cases n with
  | ofNat n => exact ⟨j, n, rfl, h⟩
  | negSucc n => cases h
theorem onB_some {k : Bool → Option α} (h : v.onB k none = some r) : ∃ b, v = .bool b ∧ k b = some r := by
  cases v with
  | c x => cases x <;> simp [AV.onB] at h; exact ⟨_, rfl, h⟩
  | a l => simp [AV.onB] at h
  | t l => simp [AV.onB] at h
theorem onS_some {k : List Nat → Option α} (h : v.onS k none = some r) : ∃ b, v = .str b ∧ k b = some r := by
  cases v with
  | c x => cases x <;> simp [AV.onS] at h; exact ⟨_, rfl, h⟩
  | a l => simp [AV.onS] at h
  | t l => simp [AV.onS] at h
theorem onO_some {k : Oth → Option α} (h : v.onO k none = some r) : ∃ b, v = .oth b ∧ k b = some r := by
  cases v with
  | c x => cases x <;> simp [AV.onO] at h; exact ⟨_, rfl, h⟩
  | a l => simp [AV.onO] at h
  | t l => simp [AV.onO] at h
theorem onA_some {k : List Cell → Option α} (h : v.onA k none = some r) : ∃ l, v = .a l ∧ k l = some r := by
  cases v with
  | c x => simp [AV.onA] at h
  | a l => exact ⟨l, rfl, h⟩
  | t l => simp [AV.onA] at h
theorem onT_some {k : List TV → Option α} (h : v.onT k none = some r) : ∃ l, v = .t l ∧ k l = some r := by
  cases v with
  | c x => simp [AV.onT] at h
  | a l => simp [AV.onT] at h
  | t l => exact ⟨l, rfl, h⟩
end

/-! ### cells -/
theorem flat_one {φ : Phi} {x : Cell} {v : Value} (h : x.flat = true) (hv : VRc φ x v) : v.oneCell' = true := by
  cases x with
  | i k n => simp only [VRc] at hv; subst hv; rfl
  | p b off => obtain ⟨g, o, _, rfl⟩ := hv; rfl
  | b x => simp only [VRc] at hv; subst hv; rfl
  | s l => obtain ⟨s, rfl, _⟩ := hv; rfl
  | o x =>
    cases x with
    | any => cases h
    | slc b off len cap ex => obtain ⟨g, o, c, _, rfl, _⟩ := hv; rfl
    | emp => obtain ⟨a, c, rfl⟩ := hv; rfl
    | map b => obtain ⟨g, _, rfl⟩ := hv; rfl
    | fn f xs ys => obtain ⟨vs, ws, rfl, _⟩ := hv; rfl
    | ifc t b => obtain ⟨g, _, rfl⟩ := hv; rfl
    | nilp => simp only [VRc, VRo] at hv; subst hv; rfl
    | nils => simp only [VRc, VRo] at hv; subst hv; rfl
    | nilm => simp only [VRc, VRo] at hv; subst hv; rfl
    | nilf => simp only [VRc, VRo] at hv; subst hv; rfl
    | nili => simp only [VRc, VRo] at hv; subst hv; rfl
    | sy k c l => simp only [VRc, VRo] at hv; subst hv; rfl
    | ss i => simp only [VRc, VRo] at hv; subst hv; rfl
    | sb m c l => simp only [VRc, VRo] at hv; subst hv; rfl
    | pv b j => cases h
theorem flats_one {φ : Phi} : ∀ {l : List Cell} {us : List Value}, flats l = true → All2 (VRc φ) l us → ∀ u ∈ us, u.oneCell' = true
  | [], [], _, _, u, hu => by cases hu
  | x :: l, v :: us, h, hv, u, hu => by
    have hx : x.flat = true ∧ flats l = true := by
      simp only [flats] at h
      cases hf : x.flat with
      | false => rw [hf] at h; simp at h
      | true => rw [hf] at h; simpa using h
    cases hu with
    | head => exact flat_one hx.1 hv.1
    | tail _ hu => exact flats_one hx.2 hv.2 u hu

/-- The cells that a block holds from a place on. -/
theorem CR.sub {φ : Phi} {l r : List Cell} {o off n : Nat} {cur : Array Value} (hc : CR φ l o cur) (h : takeN n (dropN off l) = some r) :
    r.length = n ∧ ∃ us : List Value, us.length = n ∧ All2 (VRc φ) r us ∧ ∀ j u, us[j]? = some u → cur[o + off + j]? = some u := by
  rw [dropN_eq] at h
  obtain ⟨rfl, hn⟩ := takeN_some h
  have hlen : ((l.drop off).take n).length = n := by simp at hn ⊢; omega
  by_cases h0 : n = 0
  · subst h0
    exact ⟨by simp, [], rfl, by simp [All2], by simp⟩
  · have hle : off + n ≤ l.length := by simp at hn; omega
    refine ⟨hlen, (List.range n).map fun j => (cur[o + off + j]?).getD undef, by simp, ?_, ?_⟩
    · refine All2.of_get (by simp [hlen]) fun j x hx => ?_
      have hj : j < n := by
        rcases Nat.lt_or_ge j n with h' | h'
        · exact h'
        · rw [List.getElem?_eq_none (by rw [hlen]; exact h')] at hx; cases hx
      rw [List.getElem?_take_of_lt hj, List.getElem?_drop] at hx
      obtain ⟨v, hv, hr⟩ := hc (off + j) x hx
      refine ⟨v, ?_, hr⟩
      rw [List.getElem?_map, List.getElem?_range hj]
      simp only [Option.map_some]
      rw [show o + off + j = o + (off + j) by omega, hv]; rfl
    · intro j u hu
      rw [List.getElem?_map] at hu
      have hj : j < n := by
        rcases Nat.lt_or_ge j n with h' | h'
        · exact h'
        · rw [List.getElem?_eq_none (by simpa using h')] at hu; cases hu
      rw [List.getElem?_range hj] at hu
      simp only [Option.map_some, Option.some.injEq] at hu
      have : ∃ x, l[off + j]? = some x := ⟨l[off + j]'(by omega), List.getElem?_eq_getElem (by omega)⟩
      obtain ⟨x, hx⟩ := this
      obtain ⟨v, hv, _⟩ := hc (off + j) x hx
      rw [show o + off + j = o + (off + j) by omega] at hu ⊢
      rw [hv] at hu ⊢
      simpa using hu

theorem size_setRow (w : World) (g : Nat) (cs : Array Value) : (w.setRow g cs).heap.size = w.heap.size := by simp [World.setRow]

/-- What stands behind a store of cells. -/
abbrev spliced (cur : Array Value) (k : Nat) (us : List Value) : Array Value := (cur.toList.take k ++ us ++ cur.toList.drop (k + us.length)).toArray
theorem spliced_get {cur : Array Value} {k : Nat} {us : List Value} (h : k + us.length ≤ cur.size) (i : Nat) :
    (spliced cur k us)[i]? = if k ≤ i ∧ i < k + us.length then us[i - k]? else cur[i]? := by
  simp only [spliced, List.getElem?_toArray]
  have h1 : (cur.toList.take k).length = k := by simp; omega
  by_cases hi : i < k
  · rw [if_neg (by omega), List.append_assoc, List.getElem?_append_left (by omega), List.getElem?_take_of_lt hi]
    simp
  · by_cases hi2 : i < k + us.length
    · rw [if_pos ⟨by omega, hi2⟩, List.append_assoc, List.getElem?_append_right (by omega), List.getElem?_append_left (by omega), h1]
    · rw [if_neg (by omega), List.getElem?_append_right (by simp; omega), List.getElem?_drop]
      simp only [List.length_append, h1]
      rw [show k + us.length + (i - (k + us.length)) = i by omega]
      simp

theorem wrCells_sound {base : Nat} {φ : Phi} {σ τ : St} {w : World} (hm : MR base φ σ w) {b off g o : Nat} {vs : List Cell} (h : wrCells σ b off vs = some τ) (hp : φ b = some (g, o))
    {us : List Value} (hv : All2 (VRc φ) vs us) :
    ∃ cur e, w.heap[g]? = some (.cells cur e (0, 0)) ∧ o + off + us.length ≤ cur.size ∧ us.length ≠ 0 ∧
      Stp base φ σ w φ τ (w.setRow g (spliced cur (o + off) us)) := by
  unfold wrCells at h
  obtain ⟨he, h⟩ := ifb_none h
  have hne : vs ≠ [] := by intro e; subst e; cases he
  obtain ⟨e, l, rel, old, hb, h⟩ := onCells_some h
  obtain ⟨rfl, h⟩ := ifb_none h
  obtain ⟨l', hs, h⟩ := onSome_eq h
  obtain ⟨hl, hlen, hgt⟩ := setAll_some hne hs
  have hτ : τ = ⟨hput (kill (hget σ b).rel σ.heap) b (.cells e l' [] false), σ.next, lowd b (hget σ b).rel σ.dirty⟩ := by
    cases σ; simp at h; rw [← h, hb]; rfl
  have hbr := hm.blk b
  rw [hb] at hbr
  obtain ⟨cur, hg, hc, hlim⟩ := hbr g o hp
  have hul := hv.length
  have hsz : o + off + us.length ≤ cur.size := by
    have hv0 : vs.length ≠ 0 := by simpa using hne
    have hx : l[off + vs.length - 1]? = some (l[off + vs.length - 1]'(by omega)) := List.getElem?_eq_getElem _
    obtain ⟨v, hv', _⟩ := hc _ _ hx
    have := (Array.getElem?_eq_some_iff.1 hv').1
    omega
  have hu0 : us.length ≠ 0 := by rw [← hul]; simpa using hne
  refine ⟨cur, e, hg, hsz, hu0, ?_⟩
  rw [hτ]
  refine hm.turn (u := w.setRow g (spliced cur (o + off) us)) (by unfold live; rw [hb]; simp) hp (by rw [hb]; rfl) _ ?_ (size_setRow _ _ _) (fun k hk => setRow_other w g k _ hk) rfl rfl rfl rfl
  intro g1 o1 hp1
  rw [hp] at hp1; cases hp1
  refine ⟨_, setRow_heap w g cur _ e (0, 0) hg, fun i x hx => ?_, by rw [← hlim]; simp; omega⟩
  rw [hgt i] at hx
  rw [spliced_get hsz]
  by_cases hi : off ≤ i ∧ i < off + vs.length
  · rw [if_pos hi] at hx
    obtain ⟨u, hu, hr⟩ := hv.get hx
    rw [if_pos (by omega)]
    exact ⟨u, by rw [show o + i - (o + off) = i - off by omega]; exact hu, hr⟩
  · rw [if_neg hi] at hx
    obtain ⟨u, hu, hr⟩ := hc i x hx
    rw [if_neg (by omega)]
    exact ⟨u, hu, hr⟩

end Go.Ev
