/-
  What the evaluator knows, held against the model's memory: the relation, and how it goes on.
-/
import Derived.Test.YtjjnhpoemcihgaaGreatEvc
import Derived.Below
import Derived.Orders
import Derived.Deep.AppendSrc
import Derived.Laws.CopyRow
import Derived.Laws.Rows
import Derived.MapKept
namespace Go.Ev
open Go.RowKit (Below)

/-- Two lists, part by part. -/
def All2 {α β : Type} (R : α → β → Prop) : List α → List β → Prop
  | [], [] => True
  | a :: l, b :: m => R a b ∧ All2 R l m
  | _, _ => False

namespace All2
variable {α β : Type} {R R' : α → β → Prop}
theorem length : ∀ {l : List α} {m : List β}, All2 R l m → l.length = m.length
  | [], [], _ => rfl
  | _ :: _, _ :: _, h => by simp [length h.2]
theorem mono (h : ∀ a b, R a b → R' a b) : ∀ {l : List α} {m : List β}, All2 R l m → All2 R' l m
  | [], [], _ => trivial
  | _ :: _, _ :: _, hh => ⟨h _ _ hh.1, mono h hh.2⟩
theorem get : ∀ {l : List α} {m : List β}, All2 R l m → ∀ {i : Nat} {a : α}, l[i]? = some a → ∃ b, m[i]? = some b ∧ R a b
  | [], [], _, _, _, h => by simp at h
  | a :: l, b :: m, hh, 0, _, h => by simp at h; subst h; exact ⟨b, rfl, hh.1⟩
  | a :: l, b :: m, hh, i + 1, _, h => by simp at h ⊢; exact get hh.2 h
theorem of_get : ∀ {l : List α} {m : List β}, l.length = m.length → (∀ (i : Nat) (a : α), l[i]? = some a → ∃ b : β, m[i]? = some b ∧ R a b) → All2 R l m
  | [], [], _, _ => trivial
  | a :: l, b :: m, hl, h => by
    refine ⟨?_, of_get (by simpa using hl) fun i x hx => by simpa using h (i + 1) x (by simpa using hx)⟩
    obtain ⟨b', hb, hr⟩ := h 0 a rfl
    simp at hb; subst hb; exact hr
  | [], _ :: _, hl, _ => by simp at hl
  | _ :: _, [], hl, _ => by simp at hl
theorem append : ∀ {l : List α} {m : List β} {l' : List α} {m' : List β}, All2 R l m → All2 R l' m' → All2 R (l ++ l') (m ++ m')
  | [], [], _, _, _, h => h
  | _ :: _, _ :: _, _, _, hh, h => ⟨hh.1, append hh.2 h⟩
theorem map_left {γ : Type} (f : γ → α) : ∀ {l : List γ} {m : List β}, All2 (fun c b => R (f c) b) l m → All2 R (l.map f) m
  | [], [], _ => trivial
  | _ :: _, _ :: _, hh => ⟨hh.1, map_left f hh.2⟩
theorem reverse {l : List α} {m : List β} (h : All2 R l m) : All2 R l.reverse m.reverse := by
  induction l generalizing m with
  | nil => cases m with
    | nil => exact trivial
    | cons => exact h.elim
  | cons a l ih => cases m with
    | nil => exact h.elim
    | cons b m =>
      rw [List.reverse_cons, List.reverse_cons]
      exact append (ih h.2) ⟨h.1, trivial⟩
end All2

/-- Where the evaluator's blocks lie: block and place; and how many cells the model's blocks have. -/
structure Phi where
  f : Nat → Option (Nat × Nat)
  lim : Nat → Nat
  ρ : Nat → Int
  str : Nat → ByteArray
  val : Nat → Nat → Option Value
instance : CoeFun Phi (fun _ => Nat → Option (Nat × Nat)) := ⟨Phi.f⟩
structure Phi.le (φ ψ : Phi) : Prop where
  go : ∀ b x, φ b = some x → ψ b = some x ∧ ψ.lim x.1 = φ.lim x.1
  ρ : ψ.ρ = φ.ρ
  str : ψ.str = φ.str
  val : ∀ b j v, φ.val b j = some v → ψ.val b j = some v
theorem Phi.le_refl (φ : Phi) : φ.le φ := ⟨fun _ _ h => ⟨h, rfl⟩, rfl, rfl, fun _ _ _ h => h⟩
theorem Phi.le_trans {φ ψ χ : Phi} (h : φ.le ψ) (k : ψ.le χ) : φ.le χ := ⟨fun b x e => ⟨(k.go b x (h.go b x e).1).1, by rw [(k.go b x (h.go b x e).1).2, (h.go b x e).2]⟩, k.ρ.trans h.ρ, k.str.trans h.str, fun b j v e => k.val b j v (h.val b j v e)⟩
theorem Phi.le.at {φ ψ : Phi} (h : φ.le ψ) {b : Nat} {x : Nat × Nat} (e : φ b = some x) : ψ b = some x := (h.go b x e).1
theorem Phi.le.limAt {φ ψ : Phi} (h : φ.le ψ) {b g o : Nat} (e : φ b = some (g, o)) : ψ.lim g = φ.lim g := (h.go b _ e).2
def objSize : Obj → Nat
  | .cells cs _ _ => cs.size
  | _ => 0

def VRp (φ : Phi) (p : Nat × Nat) (v : Value) : Prop := ∃ g o, φ p.1 = some (g, o) ∧ v = .pointer (some ⟨g, o + p.2, none⟩)

def evalL (ρ : Nat → Int) : List (Nat × Int) → Int
  | [] => 0
  | p :: l => p.2 * ρ p.1 + evalL ρ l
/-- What an unknown truth is. -/
def sbVal (ρ : Nat → Int) (m : Nat) (c : Int) (l : List (Nat × Int)) : Bool := match m with
  | 0 => decide (c + evalL ρ l ≤ 0)
  | 1 => decide (c + evalL ρ l = 0)
  | _ => !decide (c + evalL ρ l = 0)
def Fact.holds (ρ : Nat → Int) (str : Nat → ByteArray) : Fact → Prop
  | .le c l => c + evalL ρ l ≤ 0
  | .quo i c l k => ρ i = (c + evalL ρ l).tdiv k
  | .mul i c l d m => ρ i = (c + evalL ρ l) * (d + evalL ρ m)
  | .sne i s => nats (str i) ≠ s
  | .len v i => ρ v = ((str i).size : Int)

def VRo (φ : Phi) : Oth → Value → Prop
  | .any, _ => True
  | .nilp, v => v = .pointer none
  | .slc b off len cap ex, v => ∃ g o c, φ b = some (g, o) ∧ v = .slice (some ⟨g, o + off, none⟩) len c ∧ cap ≤ c ∧ (ex = 0 → c = cap) ∧ len ≤ cap ∧ ∀ s, ex = s + 1 → o + off + c * s ≤ φ.lim g
  | .nils, v => v = .slice none 0 0
  | .emp, v => ∃ a c, v = .slice a 0 c
  | .map b, v => ∃ g, φ b = some (g, 0) ∧ v = .map (some g)
  | .nilm, v => v = .map none
  | .fn f xs ys, v => ∃ vs ws, v = .func (.func f) vs ws ∧ All2 (VRp φ) xs vs.toList ∧ All2 (VRp φ) ys ws.toList
  | .nilf, v => v = .nilFunc
  | .ifc t b, v => ∃ g, φ b = some (g, 0) ∧ v = .iface t (.map (some g))
  | .nili, v => v = .nilIface
  | .sy k c l, v => v = .int k (c + evalL φ.ρ l)
  | .ss i, v => v = .string (φ.str i)
  | .sb m c l, v => v = .bool (sbVal φ.ρ m c l)
  | .pv b j, v => φ.val b j = some v

def VRc (φ : Phi) : Cell → Value → Prop
  | .i k n, v => v = .int k n
  | .p b off, v => VRp φ (b, off) v
  | .b x, v => v = .bool x
  | .s l, v => ∃ s, v = .string s ∧ nats s = l
  | .o x, v => VRo φ x v

def VRt (φ : Phi) : TV → Value → Prop
  | .c x, v => VRc φ x v
  | .a l, v => ∃ cs, v = .agg cs ∧ All2 (VRc φ) l cs.toList

def VR (φ : Phi) : AV → Value → Prop
  | .c x, v => VRc φ x v
  | .a l, v => ∃ cs, v = .agg cs ∧ All2 (VRc φ) l cs.toList
  | .t l, v => ∃ vs, v = .tuple vs ∧ All2 (VRt φ) l vs.toList

theorem VRp.mono {φ ψ : Phi} (h : φ.le ψ) {p : Nat × Nat} {v : Value} : VRp φ p v → VRp ψ p v
  | ⟨g, o, a, b⟩ => ⟨g, o, h.at a, b⟩
theorem VRo.mono {φ ψ : Phi} (h : φ.le ψ) {x : Oth} {v : Value} (hh : VRo φ x v) : VRo ψ x v := by
  cases x <;> simp only [VRo] at hh ⊢ <;> try exact hh
  · obtain ⟨g, o, c, a, b, b1, b2, b3, b4⟩ := hh; exact ⟨g, o, c, h.at a, b, b1, b2, b3, fun s hs => by rw [h.limAt a]; exact b4 s hs⟩
  · obtain ⟨g, a, b⟩ := hh; exact ⟨g, h.at a, b⟩
  · obtain ⟨vs, ws, a, b, c⟩ := hh; exact ⟨vs, ws, a, b.mono fun _ _ => VRp.mono h, c.mono fun _ _ => VRp.mono h⟩
  · obtain ⟨g, a, b⟩ := hh; exact ⟨g, h.at a, b⟩
  · rw [h.ρ]; exact hh
  · rw [h.str]; exact hh
  · rw [h.ρ]; exact hh
  · exact h.val _ _ _ hh
theorem VRc.mono {φ ψ : Phi} (h : φ.le ψ) {x : Cell} {v : Value} (hh : VRc φ x v) : VRc ψ x v := by
  cases x <;> simp only [VRc] at hh ⊢ <;> first | exact hh | exact VRp.mono h hh | exact VRo.mono h hh
theorem VRt.mono {φ ψ : Phi} (h : φ.le ψ) {x : TV} {v : Value} (hh : VRt φ x v) : VRt ψ x v := by
  cases x with
  | c x => exact VRc.mono h hh
  | a l => obtain ⟨cs, a, b⟩ := hh; exact ⟨cs, a, b.mono fun _ _ => VRc.mono h⟩
theorem VR.mono {φ ψ : Phi} (h : φ.le ψ) {x : AV} {v : Value} (hh : VR φ x v) : VR ψ x v := by
  cases x with
  | c x => exact VRc.mono h hh
  | a l => obtain ⟨cs, a, b⟩ := hh; exact ⟨cs, a, b.mono fun _ _ => VRc.mono h⟩
  | t l => obtain ⟨cs, a, b⟩ := hh; exact ⟨cs, a, b.mono fun _ _ => VRt.mono h⟩
theorem VR.any (φ : Phi) (v : Value) : VR φ .any v := trivial

/-! ### memory -/
/-- Cells that lie from a place on. -/
def CR (φ : Phi) (l : List Cell) (o : Nat) (cur : Array Value) : Prop := ∀ i x, l[i]? = some x → ∃ v, cur[o + i]? = some v ∧ VRc φ x v
theorem CR.mono {φ ψ : Phi} (h : φ.le ψ) {l : List Cell} {o : Nat} {cur : Array Value} (hh : CR φ l o cur) : CR ψ l o cur :=
  fun i x hx => let ⟨v, a, b⟩ := hh i x hx; ⟨v, a, b.mono h⟩

def ER (φ : Phi) (e : AV × AV × Nat) (c : MapEntry) : Prop := VR φ e.1 c.key ∧ VR φ e.2.1 c.val ∧ c.born = e.2.2
theorem ER.mono {φ ψ : Phi} (h : φ.le ψ) {e : AV × AV × Nat} {c : MapEntry} (hh : ER φ e c) : ER ψ e c := ⟨hh.1.mono h, hh.2.1.mono h, hh.2.2⟩

/-- The map over which an iterator goes. -/
def IR (φ : Phi) : Option Nat → Option Nat → Prop
  | none, cm => cm = none
  | some b, cm => ∃ g, φ b = some (g, 0) ∧ cm = some g

/-- Which entries have come; the last one stands twice ahead, if it is known. -/
def SeenR (cs seen : List Nat) : Prop := (∀ x, x ∈ cs ↔ x ∈ seen) ∧ ∀ s r, seen = s :: s :: r → cs.getLast? = some s
theorem SeenR.nil : SeenR [] [] := ⟨fun _ => Iff.rfl, fun _ _ h => by cases h⟩
theorem SeenR.isEmpty {cs seen : List Nat} (h : SeenR cs seen) : cs.isEmpty = seen.isEmpty := by
  cases cs with
  | nil => cases seen with
    | nil => rfl
    | cons x l => exact absurd ((h.1 x).2 (List.mem_cons_self ..)) (by simp)
  | cons x l => cases seen with
    | nil => exact absurd ((h.1 x).1 (List.mem_cons_self ..)) (by simp)
    | cons y m => rfl
theorem SeenR.push {cs seen : List Nat} (h : SeenR cs seen) (s : Nat) : SeenR (cs ++ [s]) (s :: s :: seen) :=
  ⟨fun x => by simp [h.1 x]; exact or_comm, fun s' r e => by cases e; simp⟩
/-- What is known of a block; nothing, if it lies nowhere (yet). -/
def BR (φ : Phi) (w : World) (b : Nat) : ABlk → Prop
  | .none => True
  | .cells e l _ _ => ∀ g o, φ b = some (g, o) → ∃ cur, w.heap[g]? = some (.cells cur e (0, 0)) ∧ CR φ l o cur ∧ cur.size = φ.lim g
  | .map es clock => ∀ g o, φ b = some (g, o) → o = 0 ∧ ∃ ces, w.heap[g]? = some (.map ces clock) ∧ All2 (ER φ) es ces.toList
  | .iter m since seen stepped => ∀ g o, φ b = some (g, o) → o = 0 ∧ ∃ cm cs, w.heap[g]? = some (.mapIter cm since cs stepped) ∧ SeenR cs.toList seen ∧ IR φ m cm
  | .facts l => φ b = none ∧ ∀ f ∈ l, f.holds φ.ρ φ.str
  | .perm gs => φ b = none ∧ ∃ hs : List (List Cell), gs.Perm hs ∧ (∀ j c, hs.flatten[j]? = some c → ∃ v, φ.val b j = some v ∧ VRc φ c v) ∧ ∀ j, hs.flatten.length ≤ j → φ.val b j = none

def ABlk.rel : ABlk → List Nat
  | .cells _ _ r _ => r
  | _ => []
def ABlk.old : ABlk → Bool
  | .cells _ _ _ o => o
  | _ => false

def live (σ : St) (b : Nat) : Prop := hget σ b ≠ .none

structure MR (base : Nat) (φ : Phi) (σ : St) (w : World) : Prop where
  blk : ∀ b, BR φ w b (hget σ b)
  apart : ∀ b c g o o', b ≠ c → live σ b → live σ c → φ b = some (g, o) → φ c = some (g, o') →
    (b ∈ (hget σ c).rel ∧ (hget σ b).old = true) ∨ (c ∈ (hget σ b).rel ∧ (hget σ c).old = true)
  fresh : ∀ b, σ.next ≤ b + 1 → φ b = none
  low : ∀ b g o, φ b = some (g, o) → base ≤ g ∧ g < w.heap.size
  bl : base ≤ w.heap.size
  void : ∀ b, σ.next ≤ b + 1 → hget σ b = .none
  vals : ∀ b, σ.next ≤ b + 1 → φ.val b = fun _ => none

/-- What a step does: memory that the evaluator does not know stays. -/
structure Stp (base : Nat) (φ : Phi) (σ : St) (w : World) (ψ : Phi) (τ : St) (u : World) : Prop where
  le : φ.le ψ
  mr : MR base ψ τ u
  size : w.heap.size ≤ u.heap.size
  frame : ∀ g, g < w.heap.size → (∀ b o, live σ b → φ b ≠ some (g, o)) → u.heap[g]? = w.heap[g]?
  img : ∀ b g o, live τ b → ψ b = some (g, o) → g < w.heap.size → ∃ c o', live σ c ∧ φ c = some (g, o')
  next : σ.next ≤ τ.next
  keep : ∀ b, b + 1 < σ.next → ψ b = φ b
  ghost : ∀ b, b + 1 < σ.next → φ b = none → (∀ l, hget σ b ≠ .facts l) → hget τ b = hget σ b ∨ hget τ b = .none
  dirt : τ.dirty ≤ σ.dirty
  same : ∀ b, b + 1 < σ.next → b < τ.dirty ∧ (∀ l, hget σ b ≠ .facts l) → hget τ b = hget σ b
  kept : ∀ b, b + 1 < σ.next → ψ.val b = φ.val b
  os : u.os = w.os
  tape : u.tape = w.tape
  output : u.output = w.output
  drawn : w.drawn ≤ u.drawn

theorem Stp.refl {base : Nat} {φ : Phi} {σ : St} {w : World} (h : MR base φ σ w) : Stp base φ σ w φ σ w :=
  ⟨Phi.le_refl _, h, Nat.le_refl _, fun _ _ _ => rfl, fun b _ o hl hp _ => ⟨b, o, hl, hp⟩, Nat.le_refl _, fun _ _ => rfl, fun _ _ _ _ => .inl rfl, Nat.le_refl _, fun _ _ _ => rfl, fun _ _ => rfl, rfl, rfl, rfl, Nat.le_refl _⟩

theorem Stp.trans {base : Nat} {φ ψ χ : Phi} {σ τ υ : St} {w u z : World} (h : Stp base φ σ w ψ τ u) (k : Stp base ψ τ u χ υ z) : Stp base φ σ w χ υ z := by
  refine ⟨Phi.le_trans h.le k.le, k.mr, Nat.le_trans h.size k.size, fun g hg hn => ?_, fun b g o hl hp hg => ?_, Nat.le_trans h.next k.next, fun b hb => ?_, fun b hb hn hnf => ?_, Nat.le_trans k.dirt h.dirt, fun b hb hd => by
    have e := h.same b hb ⟨Nat.lt_of_lt_of_le hd.1 k.dirt, hd.2⟩
    rw [k.same b (Nat.lt_of_lt_of_le hb h.next) ⟨hd.1, fun l => by rw [e]; exact hd.2 l⟩, e], fun b hb => by rw [k.kept b (Nat.lt_of_lt_of_le hb h.next), h.kept b hb], k.os.trans h.os, k.tape.trans h.tape, k.output.trans h.output, Nat.le_trans h.drawn k.drawn⟩
  · rw [k.frame g (Nat.lt_of_lt_of_le hg h.size) (fun b o hl hp => ?_), h.frame g hg hn]
    obtain ⟨c, o', hc, hc'⟩ := h.img b g o hl hp hg
    exact hn c o' hc hc'
  · obtain ⟨c, o', hc, hc'⟩ := k.img b g o hl hp (Nat.lt_of_lt_of_le hg h.size)
    exact h.img c g o' hc hc' hg
  · rw [k.keep b (Nat.lt_of_lt_of_le hb h.next), h.keep b hb]
  · rcases h.ghost b hb hn hnf with e | e
    · rcases k.ghost b (Nat.lt_of_lt_of_le hb h.next) (by rw [h.keep b hb]; exact hn) (fun l => by rw [e]; exact hnf l) with e' | e'
      · rw [e', e]; exact .inl rfl
      · exact .inr e'
    · rcases k.ghost b (Nat.lt_of_lt_of_le hb h.next) (by rw [h.keep b hb]; exact hn) (fun l => by rw [e]; simp) with e' | e'
      · rw [e', e]; exact .inr rfl
      · exact .inr e'

theorem Stp.below {base : Nat} {φ ψ : Phi} {σ τ : St} {w u : World} (h : Stp base φ σ w ψ τ u) (hm : MR base φ σ w) : Below base w u :=
  ⟨h.os, h.tape, h.output, h.size, fun k hk => h.frame k (Nat.lt_of_lt_of_le hk hm.bl) fun b o _ hp => by have := (hm.low b k o hp).1; omega⟩

theorem MR.start (w : World) (ρ : Nat → Int) (str : Nat → ByteArray) : MR w.heap.size ⟨fun _ => none, fun _ => 0, ρ, str, fun _ _ => none⟩ ⟨Hp.zero, 1, 0⟩ w where
  blk b := by rw [hget_mk, getH_zero]; trivial
  apart b _ _ _ _ _ hb := by exact absurd (by rw [hget_mk, getH_zero]) hb
  fresh _ _ := rfl
  low _ _ _ h := by cases h
  bl := Nat.le_refl _
  void _ _ := by rw [hget_mk, getH_zero]
  vals _ _ := rfl

/-- A world in which the heap is the same serves as well. -/
theorem Stp.draw {base : Nat} {φ ψ : Phi} {σ τ : St} {w u : World} (h : Stp base φ σ w ψ τ u) : Stp base φ σ w ψ τ u.drew :=
  ⟨h.le, ⟨h.mr.blk, h.mr.apart, h.mr.fresh, h.mr.low, h.mr.bl, h.mr.void, h.mr.vals⟩, h.size, h.frame, h.img, h.next, h.keep, h.ghost, h.dirt, h.same, h.kept, h.os, h.tape, h.output, Nat.le_succ_of_le h.drawn⟩

theorem MR.drew {base : Nat} {φ : Phi} {σ : St} {w : World} (h : MR base φ σ w) : MR base φ σ w.drew := ⟨h.blk, h.apart, h.fresh, h.low, h.bl, h.void, h.vals⟩

theorem BR.world {φ : Phi} {w u : World} {b : Nat} {x : ABlk} (h : BR φ w b x) (hw : ∀ g o, φ b = some (g, o) → u.heap[g]? = w.heap[g]?) : BR φ u b x := by
  cases x with
  | none => trivial
  | cells e l r o => intro g o hp; rw [hw g o hp]; exact h g o hp
  | map es c => intro g o hp; rw [hw g o hp]; exact h g o hp
  | iter m s se st => intro g o hp; rw [hw g o hp]; exact h g o hp
  | facts l => exact h
  | perm gs => exact h
theorem IR.mono {φ ψ : Phi} (hle : φ.le ψ) {m cm : Option Nat} (h : IR φ m cm) : IR ψ m cm := by
  cases m with
  | none => exact h
  | some b => obtain ⟨g, a, e⟩ := h; exact ⟨g, hle.at a, e⟩
theorem BR.mono {φ ψ : Phi} (hle : φ.le ψ) {w : World} {b : Nat} (hb : ψ b = φ b) (hvb : ψ.val b = φ.val b) {x : ABlk} (h : BR φ w b x) : BR ψ w b x := by
  cases x with
  | none => trivial
  | cells e l r o => intro g o hp; rw [hb] at hp; obtain ⟨cur, hg, hc, hl⟩ := h g o hp; exact ⟨cur, hg, hc.mono hle, by rw [hle.limAt hp]; exact hl⟩
  | map es c => intro g o hp; rw [hb] at hp; obtain ⟨h0, ces, hg, hc⟩ := h g o hp; exact ⟨h0, ces, hg, hc.mono fun _ _ => ER.mono hle⟩
  | iter m s se st => intro g o hp; rw [hb] at hp; obtain ⟨h0, cm, cs, hg, hc, hi⟩ := h g o hp; exact ⟨h0, cm, cs, hg, hc, hi.mono hle⟩
  | facts l => exact ⟨by rw [hb]; exact h.1, fun f hf => by rw [hle.ρ, hle.str]; exact h.2 f hf⟩
  | perm gs => obtain ⟨h0, hs, hp, hv, hn⟩ := h; exact ⟨by rw [hb]; exact h0, hs, hp, (fun j c hj => let ⟨v, h1, h2⟩ := hv j c hj; ⟨v, hle.val _ _ _ h1, h2.mono hle⟩), fun j hj => by rw [hvb]; exact hn j hj⟩

/-! ### a new block -/

/-- A block more. -/
def Phi.set (φ : Phi) (b : Nat) (x : Nat × Nat) (z : Nat) : Phi := ⟨fun c => if c = b then some x else φ c, fun g => if g = x.1 then z else φ.lim g, φ.ρ, φ.str, φ.val⟩
theorem Phi.le_set {φ : Phi} {b : Nat} {x : Nat × Nat} {z : Nat} (h : φ b = none) (hz : ∀ c g o, φ c = some (g, o) → g = x.1 → z = φ.lim g) : φ.le (φ.set b x z) := by
  refine ⟨?_, rfl, rfl, fun _ _ _ h => h⟩
  intro c y hc
  unfold Phi.set
  constructor
  · by_cases e : c = b
    · subst e; rw [h] at hc; cases hc
    · simp only [if_neg e]; exact hc
  · by_cases e : y.1 = x.1
    · simp only [if_pos e]; exact hz c y.1 y.2 hc e
    · simp only [if_neg e]
theorem Phi.set_same (φ : Phi) (b : Nat) (x : Nat × Nat) (z : Nat) : φ.set b x z b = some x := by simp [Phi.set]
theorem Phi.set_lim (φ : Phi) (b g o : Nat) (z : Nat) : (φ.set b (g, o) z).lim g = z := by simp [Phi.set]
theorem newBlk_some {α : Type} {σ : St} {o : ABlk} {v : Nat → α} {r : α × St} (h : newBlk σ o v = some r) :
    ∃ n, σ.next = n + 1 ∧ n < 13824 ∧ r = (v n, ⟨hput σ.heap n o, n + 2, σ.dirty⟩) := by
  obtain ⟨hp, m⟩ := σ
  cases m with
  | zero => simp [newBlk] at h
  | succ n =>
    simp only [newBlk] at h
    cases hb : Nat.blt n 13824 with
    | false => rw [hb] at h; simp [ifb] at h
    | true =>
      rw [hb] at h
      simp only [ifb, Option.some.injEq] at h
      exact ⟨n, rfl, by simpa using hb, h.symm⟩

theorem Phi.set_ne {φ : Phi} {n b : Nat} {x : Nat × Nat} {z : Nat} (h : b ≠ n) : φ.set n x z b = φ b := by simp [Phi.set, h]

/-- A block of the evaluator's that lay nowhere, laid upon a new block of the model. -/
theorem MR.adopt {base : Nat} {φ : Phi} {σ : St} {w : World} (hm : MR base φ σ w) {n : Nat} (hn : n + 1 < σ.next) (hfr : φ n = none) (c : Obj)
    (hb : BR (φ.set n (w.heap.size, 0) (objSize c)) (w.alloc c) n (hget σ n)) : MR base (φ.set n (w.heap.size, 0) (objSize c)) σ (w.alloc c) := by
  have hle := Phi.le_set (x := (w.heap.size, 0)) (z := objSize c) hfr fun d g o hd he => absurd (hm.low d g o hd).2 (by simp at he; omega)
  have hold : ∀ g, g < w.heap.size → (w.alloc c).heap[g]? = w.heap[g]? := fun g hg => heap_alloc_old w c g hg
  refine ⟨fun b => ?_, fun b d g p p' hne hl hl' hp hp' => ?_, fun b hb => ?_, fun b g p hp => ?_, by have := hm.bl; simp; omega, hm.void, hm.vals⟩
  · by_cases e : b = n
    · subst e; exact hb
    · exact BR.mono hle (Phi.set_ne e) rfl (BR.world (hm.blk b) fun g p hp => hold g (hm.low b g p hp).2)
  · by_cases e : b = n
    · subst e
      rw [Phi.set_same] at hp
      cases hp
      rw [Phi.set_ne (Ne.symm hne)] at hp'
      exact absurd (hm.low d _ _ hp').2 (by omega)
    · by_cases e' : d = n
      · subst e'
        rw [Phi.set_same] at hp'
        cases hp'
        rw [Phi.set_ne hne] at hp
        exact absurd (hm.low b _ _ hp).2 (by omega)
      · rw [Phi.set_ne e] at hp
        rw [Phi.set_ne e'] at hp'
        exact hm.apart b d g p p' hne hl hl' hp hp'
  · have : b ≠ n := by intro e; subst e; omega
    rw [Phi.set_ne this]
    exact hm.fresh b hb
  · by_cases e : b = n
    · subst e; rw [Phi.set_same] at hp; cases hp; have := hm.bl; simp; omega
    · rw [Phi.set_ne e] at hp
      have := hm.low b g p hp
      simp; omega

/-- The same, behind a step that began ahead of that block. -/
theorem Stp.adopt {base : Nat} {φ ψ : Phi} {σ τ : St} {w u : World} (h : Stp base φ σ w ψ τ u) {n : Nat} (h0 : σ.next ≤ n + 1) (hn : n + 1 < τ.next) (hfr : ψ n = none) (c : Obj)
    (hb : BR (ψ.set n (u.heap.size, 0) (objSize c)) (u.alloc c) n (hget τ n)) : Stp base φ σ w (ψ.set n (u.heap.size, 0) (objSize c)) τ (u.alloc c) := by
  refine ⟨Phi.le_trans h.le (Phi.le_set hfr fun d g o hd he => absurd (h.mr.low d g o hd).2 (by simp at he; omega)), h.mr.adopt hn hfr c hb, by have := h.size; simp; omega, fun g hg hno => ?_, fun b g p hl hp hg => ?_, h.next, fun b hb => ?_, h.ghost, h.dirt, h.same, h.kept, h.os, h.tape, h.output, h.drawn⟩
  · rw [heap_alloc_old u c g (Nat.lt_of_lt_of_le hg h.size)]; exact h.frame g hg hno
  · by_cases e : b = n
    · subst e; rw [Phi.set_same] at hp; cases hp; have := h.size; omega
    · rw [Phi.set_ne e] at hp; exact h.img b g p hl hp hg
  · rw [Phi.set_ne (by omega)]; exact h.keep b hb

/-- A new block of the evaluator that lies nowhere yet. -/
theorem MR.ghost {base : Nat} {φ : Phi} {σ : St} {w : World} (hm : MR base φ σ w) {n : Nat} (hn : σ.next = n + 1) (hlt : n < 13824) (o : ABlk) (hfa : ∀ l, o = .facts l → ∀ f ∈ l, f.holds φ.ρ φ.str) (hpe : ∀ gs, o = .perm gs → BR φ w n o) :
    Stp base φ σ w φ ⟨hput σ.heap n o, n + 2, σ.dirty⟩ w := by
  have hfr : φ n = none := hm.fresh n (by omega)
  have hget' : ∀ b, hget ⟨hput σ.heap n o, n + 2, σ.dirty⟩ b = if b = n then o else hget σ b := by
    intro b
    rw [hget_mk, hget_eq]
    by_cases e : b = n
    · subst e; rw [if_pos rfl]; exact getH_hput_same hlt _ _
    · rw [if_neg e]; exact getH_hput_ne e _ _
  refine ⟨Phi.le_refl _, ⟨fun b => ?_, fun b d g p p' hne hl hl' hp hp' => ?_, fun b hb => hm.fresh b (by simp at hb; omega), hm.low, hm.bl, fun b hb => by rw [hget', if_neg (by intro e; subst e; simp at hb)]; exact hm.void b (by simp at hb; omega), fun b hb => hm.vals b (by simp at hb; omega)⟩, Nat.le_refl _, fun _ _ _ => rfl, fun b g p hl hp _ => ?_, by simp; omega, fun _ _ => rfl, fun b hb _ => ?_, Nat.le_refl _, fun b hb _ => by rw [hget', if_neg (by omega)], fun _ _ => rfl, rfl, rfl, rfl, Nat.le_refl _⟩
  · rw [hget']
    by_cases e : b = n
    · subst e
      rw [if_pos rfl]
      cases o with
      | none => trivial
      | cells e l r o => intro g p hp; rw [hfr] at hp; cases hp
      | map es c => intro g p hp; rw [hfr] at hp; cases hp
      | iter m s se st => intro g p hp; rw [hfr] at hp; cases hp
      | facts l => exact ⟨hfr, hfa l rfl⟩
      | perm gs => exact hpe gs rfl
    · rw [if_neg e]; exact hm.blk b
  · have e : b ≠ n := by intro e; subst e; rw [hfr] at hp; cases hp
    have e' : d ≠ n := by intro e; subst e; rw [hfr] at hp'; cases hp'
    unfold live at hl hl'
    rw [hget', if_neg e] at hl
    rw [hget', if_neg e'] at hl'
    rw [hget', hget', if_neg e, if_neg e']
    exact hm.apart b d g p p' hne hl hl' hp hp'
  · have e : b ≠ n := by intro e; subst e; rw [hfr] at hp; cases hp
    unfold live at hl
    rw [hget', if_neg e] at hl
    exact ⟨b, p, hl, hp⟩
  · rw [hget', if_neg (by omega)]; exact fun _ => .inl rfl

/-- A new block of the evaluator for a new block of the model. -/
theorem MR.new {base : Nat} {φ : Phi} {σ : St} {w : World} (hm : MR base φ σ w) {n : Nat} (hn : σ.next = n + 1) (hlt : n < 13824) (o : ABlk) (c : Obj)
    (hb : BR (φ.set n (w.heap.size, 0) (objSize c)) (w.alloc c) n o) :
    Stp base φ σ w (φ.set n (w.heap.size, 0) (objSize c)) ⟨hput σ.heap n o, n + 2, σ.dirty⟩ (w.alloc c) := by
  have h := hm.ghost hn hlt o (fun l e => by subst e; exact hb.2) (fun gs e => by subst e; exact absurd hb.1 (by rw [Phi.set_same]; simp))
  refine h.adopt (by omega) (by simp) (hm.fresh n (by omega)) c ?_
  rw [hget_mk, getH_hput_same hlt]
  exact hb

/-- A new block of the evaluator upon a block of the model in which an older one lies. -/
theorem MR.share {base : Nat} {φ : Phi} {σ : St} {w : World} (hm : MR base φ σ w) {n b g o o' : Nat} {e : TypeId} {l : List Cell} (hn : σ.next = n + 1) (hlt : n < 13824)
    (hb : φ b = some (g, o)) (hlb : live σ b) (hold : (hget σ b).old = true) (halone : ∀ d k p, d ≠ b → live σ d → φ d = some (k, p) → k ≠ g)
    (hbr : BR (φ.set n (g, o') (φ.lim g)) w n (.cells e l [b] false)) :
    Stp base φ σ w (φ.set n (g, o') (φ.lim g)) ⟨hput σ.heap n (.cells e l [b] false), n + 2, σ.dirty⟩ w := by
  have hfr : φ n = none := hm.fresh n (by omega)
  have hbn : b ≠ n := by intro e; subst e; rw [hfr] at hb; cases hb
  have hle := Phi.le_set (x := (g, o')) (z := φ.lim g) hfr fun d k p _ he => by rw [he]
  have hget' : ∀ d, hget ⟨hput σ.heap n (.cells e l [b] false), n + 2, σ.dirty⟩ d = if d = n then .cells e l [b] false else hget σ d := by
    intro d
    rw [hget_mk, hget_eq]
    by_cases e : d = n
    · subst e; rw [if_pos rfl]; exact getH_hput_same hlt _ _
    · rw [if_neg e]; exact getH_hput_ne e _ _
  refine ⟨hle, ⟨fun d => ?_, fun c d k p p' hne hl hl' hp hp' => ?_, fun d hd => ?_, fun d k p hp => ?_, hm.bl, fun d hd => by rw [hget', if_neg (by intro e; subst e; simp at hd)]; exact hm.void d (by simp at hd; omega), fun b hb => hm.vals b (by simp at hb; omega)⟩, Nat.le_refl _, fun _ _ _ => rfl, fun d k p hl hp _ => ?_, by simp; omega, fun d hd => Phi.set_ne (by omega), fun d hd _ => ?_, Nat.le_refl _, fun d hd _ => by rw [hget', if_neg (by omega)], fun _ _ => rfl, rfl, rfl, rfl, Nat.le_refl _⟩
  · rw [hget']
    by_cases e : d = n
    · subst e; rw [if_pos rfl]; exact hbr
    · rw [if_neg e]; exact BR.mono hle (Phi.set_ne e) rfl (hm.blk d)
  · unfold live at hl hl'
    rw [hget'] at hl hl'
    by_cases e : c = n
    · subst e
      rw [Phi.set_same] at hp; cases hp
      rw [Phi.set_ne (Ne.symm hne)] at hp'
      rw [if_neg (Ne.symm hne)] at hl'
      have hdb : d = b := by
        by_cases e : d = b
        · exact e
        · exact absurd rfl (halone d _ p' e hl' hp')
      subst hdb
      right
      rw [hget', hget', if_pos rfl, if_neg hbn]
      exact ⟨by simp [ABlk.rel], hold⟩
    · by_cases e' : d = n
      · subst e'
        rw [Phi.set_same] at hp'; cases hp'
        rw [Phi.set_ne hne] at hp
        rw [if_neg hne] at hl
        have hcb : c = b := by
          by_cases e : c = b
          · exact e
          · exact absurd rfl (halone c _ p e hl hp)
        subst hcb
        left
        rw [hget', hget', if_pos rfl, if_neg hbn]
        exact ⟨by simp [ABlk.rel], hold⟩
      · rw [Phi.set_ne e] at hp
        rw [Phi.set_ne e'] at hp'
        rw [if_neg e] at hl
        rw [if_neg e'] at hl'
        rw [hget', hget', if_neg e, if_neg e']
        exact hm.apart c d k p p' hne hl hl' hp hp'
  · have : d ≠ n := by intro e; subst e; simp at hd
    rw [Phi.set_ne this]
    exact hm.fresh d (by simp at hd; omega)
  · by_cases e : d = n
    · subst e; rw [Phi.set_same] at hp; cases hp; exact hm.low b _ _ hb
    · rw [Phi.set_ne e] at hp; exact hm.low d k p hp
  · by_cases e : d = n
    · subst e; rw [Phi.set_same] at hp; cases hp; exact ⟨b, o, hlb, hb⟩
    · rw [Phi.set_ne e] at hp
      unfold live at hl
      rw [hget', if_neg e] at hl
      exact ⟨d, p, hl, hp⟩
  · rw [hget', if_neg (by omega)]; exact fun _ => .inl rfl

/-! ### a block that is written -/

/-- Who else lies there. -/
theorem MR.alone {base : Nat} {φ : Phi} {σ : St} {w : World} (hm : MR base φ σ w) {b g o : Nat} (hl : live σ b) (hp : φ b = some (g, o)) (hold : (hget σ b).old = false)
    {c g' p : Nat} (hne : c ≠ b) (hlc : live σ c) (hnr : c ∉ (hget σ b).rel) (hpc : φ c = some (g', p)) : g' ≠ g := by
  intro e
  subst e
  rcases hm.apart b c g' o p (Ne.symm hne) hl hlc hp hpc with ⟨_, h⟩ | ⟨h, _⟩
  · rw [hold] at h; cases h
  · exact hnr h

/-- A block turns, and with it the block of the model in which it lies; blocks that may lie on it are forgotten. -/
theorem MR.turn {base : Nat} {φ : Phi} {σ : St} {w u : World} (hm : MR base φ σ w) {b g o : Nat} (hl : live σ b) (hp : φ b = some (g, o)) (hold : (hget σ b).old = false)
    (x : ABlk) (hbr : BR φ u b x)
    (hsize : u.heap.size = w.heap.size) (hother : ∀ k, k ≠ g → u.heap[k]? = w.heap[k]?) (hos : u.os = w.os) (htape : u.tape = w.tape) (hout : u.output = w.output) (hdrawn : u.drawn = w.drawn) :
    Stp base φ σ w φ ⟨hput (kill (hget σ b).rel σ.heap) b x, σ.next, lowd b (hget σ b).rel σ.dirty⟩ u := by
  have hlt : b < 13824 := getH_lt (h := σ.heap) (by rw [← hget_eq]; exact hl)
  have hget' : ∀ c, hget ⟨hput (kill (hget σ b).rel σ.heap) b x, σ.next, lowd b (hget σ b).rel σ.dirty⟩ c = if c = b then x else if c ∈ (hget σ b).rel then .none else hget σ c := by
    intro c
    rw [hget_mk]
    by_cases e : c = b
    · subst e; rw [if_pos rfl]; exact getH_hput_same hlt _ _
    · rw [if_neg e, getH_hput_ne e, getH_kill, hget_eq σ c]
  have hother' : ∀ c g' p, c ≠ b → live σ c → c ∉ (hget σ b).rel → φ c = some (g', p) → g' ≠ g := by
    intro c g' p hne hlc hnr hpc e
    subst e
    rcases hm.apart b c g' o p (Ne.symm hne) hl hlc hp hpc with ⟨_, h⟩ | ⟨h, _⟩
    · rw [hold] at h; cases h
    · exact hnr h
  refine ⟨Phi.le_refl _, ⟨fun c => ?_, fun c d k p p' hne hlc hld hpc hpd => ?_, fun c hc => hm.fresh c hc, fun c k p hpc => by rw [hsize]; exact hm.low c k p hpc, by rw [hsize]; exact hm.bl, fun c hc => by
    have hv := hm.void c hc
    rw [hget', if_neg (by intro e; subst e; exact hl hv)]
    by_cases er : c ∈ (hget σ b).rel
    · rw [if_pos er]
    · rw [if_neg er]; exact hv, hm.vals⟩,
    by rw [hsize]; exact Nat.le_refl _, fun k _ hk => hother k fun e => ?_, fun c k p hlc hpc _ => ?_, Nat.le_refl _, fun _ _ => rfl, fun c _ hc => ?_, (lowd_le b _ _).1, fun c _ hc => ?_, fun _ _ => rfl, hos, htape, hout, Nat.le_of_eq hdrawn.symm⟩
  · rw [hget']
    by_cases e : c = b
    · subst e; rw [if_pos rfl]; exact hbr
    · rw [if_neg e]
      by_cases er : c ∈ (hget σ b).rel
      · rw [if_pos er]; trivial
      · rw [if_neg er]
        by_cases hlc : live σ c
        · exact BR.world (hm.blk c) fun g' p hpc => hother g' (hother' c g' p e hlc er hpc)
        · have : hget σ c = .none := by
            by_cases h : hget σ c = .none
            · exact h
            · exact absurd h hlc
          rw [this]; trivial
  · have lv : ∀ c, live ⟨hput (kill (hget σ b).rel σ.heap) b x, σ.next, lowd b (hget σ b).rel σ.dirty⟩ c → c = b ∨ (c ≠ b ∧ c ∉ (hget σ b).rel ∧ live σ c) := by
      intro c hc
      unfold live at hc
      rw [hget'] at hc
      by_cases e : c = b
      · exact .inl e
      · rw [if_neg e] at hc
        by_cases er : c ∈ (hget σ b).rel
        · rw [if_pos er] at hc; exact absurd rfl hc
        · rw [if_neg er] at hc; exact .inr ⟨e, er, hc⟩
    rcases lv c hlc with rfl | ⟨e, er, hlc'⟩
    · rcases lv d hld with rfl | ⟨e', er', hld'⟩
      · exact absurd rfl hne
      · rw [hp] at hpc; cases hpc
        exact absurd rfl (hother' d _ p' e' hld' er' hpd)
    · rcases lv d hld with rfl | ⟨e', er', hld'⟩
      · rw [hp] at hpd; cases hpd
        exact absurd rfl (hother' c _ p e hlc' er hpc)
      · have := hm.apart c d k p p' hne hlc' hld' hpc hpd
        rw [hget', hget', if_neg e, if_neg er, if_neg e', if_neg er']
        exact this
  · subst e; exact hk b o hl hp
  · unfold live at hlc
    rw [hget'] at hlc
    by_cases e : c = b
    · subst e; exact ⟨c, p, hl, hpc⟩
    · rw [if_neg e] at hlc
      by_cases er : c ∈ (hget σ b).rel
      · rw [if_pos er] at hlc; exact absurd rfl hlc
      · rw [if_neg er] at hlc; exact ⟨c, p, hlc, hpc⟩
  · rw [hget', if_neg (by intro e; subst e; rw [hp] at hc; cases hc)]
    by_cases er : c ∈ (hget σ b).rel
    · rw [if_pos er]; exact fun _ => .inr rfl
    · rw [if_neg er]; exact fun _ => .inl rfl
  · obtain ⟨_, h2, h3⟩ := lowd_le b (hget σ b).rel σ.dirty
    rw [hget', if_neg (by intro e; subst e; exact absurd hc.1 (by show ¬ c < lowd c _ _; omega)), if_neg fun er => absurd hc.1 (by have := h3 c er; show ¬ c < lowd b _ _; omega)]

end Go.Ev
