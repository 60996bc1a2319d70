/-
  An evaluator for the model's programs, made for the kernel: what is known of values and of memory; lookups in a few steps.
-/
import GoSem.Step
namespace Go.Ev

/-- A box: what stands in it is worked out once. -/
structure Bx (α : Type) where
  run : α

/-- What stands in a box, handed on: for use ahead of the run. -/
def Bx.use {α β : Type} (b : Bx α) (k : α → β) : β := Bx.casesOn b fun f => k f

structure N24 (β : Type) where
  x0 : β
  x1 : β
  x2 : β
  x3 : β
  x4 : β
  x5 : β
  x6 : β
  x7 : β
  x8 : β
  x9 : β
  x10 : β
  x11 : β
  x12 : β
  x13 : β
  x14 : β
  x15 : β
  x16 : β
  x17 : β
  x18 : β
  x19 : β
  x20 : β
  x21 : β
  x22 : β
  x23 : β
namespace N24
variable {β : Type}
def all (x : β) : N24 β := ⟨x, x, x, x, x, x, x, x, x, x, x, x, x, x, x, x, x, x, x, x, x, x, x, x⟩
def p0 (h : β → β) (t : N24 β) : N24 β := N24.casesOn t fun x0 x1 x2 x3 x4 x5 x6 x7 x8 x9 x10 x11 x12 x13 x14 x15 x16 x17 x18 x19 x20 x21 x22 x23 => ⟨h x0, x1, x2, x3, x4, x5, x6, x7, x8, x9, x10, x11, x12, x13, x14, x15, x16, x17, x18, x19, x20, x21, x22, x23⟩
def p1 (h : β → β) (t : N24 β) : N24 β := N24.casesOn t fun x0 x1 x2 x3 x4 x5 x6 x7 x8 x9 x10 x11 x12 x13 x14 x15 x16 x17 x18 x19 x20 x21 x22 x23 => ⟨x0, h x1, x2, x3, x4, x5, x6, x7, x8, x9, x10, x11, x12, x13, x14, x15, x16, x17, x18, x19, x20, x21, x22, x23⟩
def p2 (h : β → β) (t : N24 β) : N24 β := N24.casesOn t fun x0 x1 x2 x3 x4 x5 x6 x7 x8 x9 x10 x11 x12 x13 x14 x15 x16 x17 x18 x19 x20 x21 x22 x23 => ⟨x0, x1, h x2, x3, x4, x5, x6, x7, x8, x9, x10, x11, x12, x13, x14, x15, x16, x17, x18, x19, x20, x21, x22, x23⟩
def p3 (h : β → β) (t : N24 β) : N24 β := N24.casesOn t fun x0 x1 x2 x3 x4 x5 x6 x7 x8 x9 x10 x11 x12 x13 x14 x15 x16 x17 x18 x19 x20 x21 x22 x23 => ⟨x0, x1, x2, h x3, x4, x5, x6, x7, x8, x9, x10, x11, x12, x13, x14, x15, x16, x17, x18, x19, x20, x21, x22, x23⟩
def p4 (h : β → β) (t : N24 β) : N24 β := N24.casesOn t fun x0 x1 x2 x3 x4 x5 x6 x7 x8 x9 x10 x11 x12 x13 x14 x15 x16 x17 x18 x19 x20 x21 x22 x23 => ⟨x0, x1, x2, x3, h x4, x5, x6, x7, x8, x9, x10, x11, x12, x13, x14, x15, x16, x17, x18, x19, x20, x21, x22, x23⟩
def p5 (h : β → β) (t : N24 β) : N24 β := N24.casesOn t fun x0 x1 x2 x3 x4 x5 x6 x7 x8 x9 x10 x11 x12 x13 x14 x15 x16 x17 x18 x19 x20 x21 x22 x23 => ⟨x0, x1, x2, x3, x4, h x5, x6, x7, x8, x9, x10, x11, x12, x13, x14, x15, x16, x17, x18, x19, x20, x21, x22, x23⟩
def p6 (h : β → β) (t : N24 β) : N24 β := N24.casesOn t fun x0 x1 x2 x3 x4 x5 x6 x7 x8 x9 x10 x11 x12 x13 x14 x15 x16 x17 x18 x19 x20 x21 x22 x23 => ⟨x0, x1, x2, x3, x4, x5, h x6, x7, x8, x9, x10, x11, x12, x13, x14, x15, x16, x17, x18, x19, x20, x21, x22, x23⟩
def p7 (h : β → β) (t : N24 β) : N24 β := N24.casesOn t fun x0 x1 x2 x3 x4 x5 x6 x7 x8 x9 x10 x11 x12 x13 x14 x15 x16 x17 x18 x19 x20 x21 x22 x23 => ⟨x0, x1, x2, x3, x4, x5, x6, h x7, x8, x9, x10, x11, x12, x13, x14, x15, x16, x17, x18, x19, x20, x21, x22, x23⟩
def p8 (h : β → β) (t : N24 β) : N24 β := N24.casesOn t fun x0 x1 x2 x3 x4 x5 x6 x7 x8 x9 x10 x11 x12 x13 x14 x15 x16 x17 x18 x19 x20 x21 x22 x23 => ⟨x0, x1, x2, x3, x4, x5, x6, x7, h x8, x9, x10, x11, x12, x13, x14, x15, x16, x17, x18, x19, x20, x21, x22, x23⟩
def p9 (h : β → β) (t : N24 β) : N24 β := N24.casesOn t fun x0 x1 x2 x3 x4 x5 x6 x7 x8 x9 x10 x11 x12 x13 x14 x15 x16 x17 x18 x19 x20 x21 x22 x23 => ⟨x0, x1, x2, x3, x4, x5, x6, x7, x8, h x9, x10, x11, x12, x13, x14, x15, x16, x17, x18, x19, x20, x21, x22, x23⟩
def p10 (h : β → β) (t : N24 β) : N24 β := N24.casesOn t fun x0 x1 x2 x3 x4 x5 x6 x7 x8 x9 x10 x11 x12 x13 x14 x15 x16 x17 x18 x19 x20 x21 x22 x23 => ⟨x0, x1, x2, x3, x4, x5, x6, x7, x8, x9, h x10, x11, x12, x13, x14, x15, x16, x17, x18, x19, x20, x21, x22, x23⟩
def p11 (h : β → β) (t : N24 β) : N24 β := N24.casesOn t fun x0 x1 x2 x3 x4 x5 x6 x7 x8 x9 x10 x11 x12 x13 x14 x15 x16 x17 x18 x19 x20 x21 x22 x23 => ⟨x0, x1, x2, x3, x4, x5, x6, x7, x8, x9, x10, h x11, x12, x13, x14, x15, x16, x17, x18, x19, x20, x21, x22, x23⟩
def p12 (h : β → β) (t : N24 β) : N24 β := N24.casesOn t fun x0 x1 x2 x3 x4 x5 x6 x7 x8 x9 x10 x11 x12 x13 x14 x15 x16 x17 x18 x19 x20 x21 x22 x23 => ⟨x0, x1, x2, x3, x4, x5, x6, x7, x8, x9, x10, x11, h x12, x13, x14, x15, x16, x17, x18, x19, x20, x21, x22, x23⟩
def p13 (h : β → β) (t : N24 β) : N24 β := N24.casesOn t fun x0 x1 x2 x3 x4 x5 x6 x7 x8 x9 x10 x11 x12 x13 x14 x15 x16 x17 x18 x19 x20 x21 x22 x23 => ⟨x0, x1, x2, x3, x4, x5, x6, x7, x8, x9, x10, x11, x12, h x13, x14, x15, x16, x17, x18, x19, x20, x21, x22, x23⟩
def p14 (h : β → β) (t : N24 β) : N24 β := N24.casesOn t fun x0 x1 x2 x3 x4 x5 x6 x7 x8 x9 x10 x11 x12 x13 x14 x15 x16 x17 x18 x19 x20 x21 x22 x23 => ⟨x0, x1, x2, x3, x4, x5, x6, x7, x8, x9, x10, x11, x12, x13, h x14, x15, x16, x17, x18, x19, x20, x21, x22, x23⟩
def p15 (h : β → β) (t : N24 β) : N24 β := N24.casesOn t fun x0 x1 x2 x3 x4 x5 x6 x7 x8 x9 x10 x11 x12 x13 x14 x15 x16 x17 x18 x19 x20 x21 x22 x23 => ⟨x0, x1, x2, x3, x4, x5, x6, x7, x8, x9, x10, x11, x12, x13, x14, h x15, x16, x17, x18, x19, x20, x21, x22, x23⟩
def p16 (h : β → β) (t : N24 β) : N24 β := N24.casesOn t fun x0 x1 x2 x3 x4 x5 x6 x7 x8 x9 x10 x11 x12 x13 x14 x15 x16 x17 x18 x19 x20 x21 x22 x23 => ⟨x0, x1, x2, x3, x4, x5, x6, x7, x8, x9, x10, x11, x12, x13, x14, x15, h x16, x17, x18, x19, x20, x21, x22, x23⟩
def p17 (h : β → β) (t : N24 β) : N24 β := N24.casesOn t fun x0 x1 x2 x3 x4 x5 x6 x7 x8 x9 x10 x11 x12 x13 x14 x15 x16 x17 x18 x19 x20 x21 x22 x23 => ⟨x0, x1, x2, x3, x4, x5, x6, x7, x8, x9, x10, x11, x12, x13, x14, x15, x16, h x17, x18, x19, x20, x21, x22, x23⟩
def p18 (h : β → β) (t : N24 β) : N24 β := N24.casesOn t fun x0 x1 x2 x3 x4 x5 x6 x7 x8 x9 x10 x11 x12 x13 x14 x15 x16 x17 x18 x19 x20 x21 x22 x23 => ⟨x0, x1, x2, x3, x4, x5, x6, x7, x8, x9, x10, x11, x12, x13, x14, x15, x16, x17, h x18, x19, x20, x21, x22, x23⟩
def p19 (h : β → β) (t : N24 β) : N24 β := N24.casesOn t fun x0 x1 x2 x3 x4 x5 x6 x7 x8 x9 x10 x11 x12 x13 x14 x15 x16 x17 x18 x19 x20 x21 x22 x23 => ⟨x0, x1, x2, x3, x4, x5, x6, x7, x8, x9, x10, x11, x12, x13, x14, x15, x16, x17, x18, h x19, x20, x21, x22, x23⟩
def p20 (h : β → β) (t : N24 β) : N24 β := N24.casesOn t fun x0 x1 x2 x3 x4 x5 x6 x7 x8 x9 x10 x11 x12 x13 x14 x15 x16 x17 x18 x19 x20 x21 x22 x23 => ⟨x0, x1, x2, x3, x4, x5, x6, x7, x8, x9, x10, x11, x12, x13, x14, x15, x16, x17, x18, x19, h x20, x21, x22, x23⟩
def p21 (h : β → β) (t : N24 β) : N24 β := N24.casesOn t fun x0 x1 x2 x3 x4 x5 x6 x7 x8 x9 x10 x11 x12 x13 x14 x15 x16 x17 x18 x19 x20 x21 x22 x23 => ⟨x0, x1, x2, x3, x4, x5, x6, x7, x8, x9, x10, x11, x12, x13, x14, x15, x16, x17, x18, x19, x20, h x21, x22, x23⟩
def p22 (h : β → β) (t : N24 β) : N24 β := N24.casesOn t fun x0 x1 x2 x3 x4 x5 x6 x7 x8 x9 x10 x11 x12 x13 x14 x15 x16 x17 x18 x19 x20 x21 x22 x23 => ⟨x0, x1, x2, x3, x4, x5, x6, x7, x8, x9, x10, x11, x12, x13, x14, x15, x16, x17, x18, x19, x20, x21, h x22, x23⟩
def p23 (h : β → β) (t : N24 β) : N24 β := N24.casesOn t fun x0 x1 x2 x3 x4 x5 x6 x7 x8 x9 x10 x11 x12 x13 x14 x15 x16 x17 x18 x19 x20 x21 x22 x23 => ⟨x0, x1, x2, x3, x4, x5, x6, x7, x8, x9, x10, x11, x12, x13, x14, x15, x16, x17, x18, x19, x20, x21, x22, h x23⟩
def sel : Nat → Bx (N24 β → β)
  | 0 => ⟨fun t => t.x0⟩
  | 1 => ⟨fun t => t.x1⟩
  | 2 => ⟨fun t => t.x2⟩
  | 3 => ⟨fun t => t.x3⟩
  | 4 => ⟨fun t => t.x4⟩
  | 5 => ⟨fun t => t.x5⟩
  | 6 => ⟨fun t => t.x6⟩
  | 7 => ⟨fun t => t.x7⟩
  | 8 => ⟨fun t => t.x8⟩
  | 9 => ⟨fun t => t.x9⟩
  | 10 => ⟨fun t => t.x10⟩
  | 11 => ⟨fun t => t.x11⟩
  | 12 => ⟨fun t => t.x12⟩
  | 13 => ⟨fun t => t.x13⟩
  | 14 => ⟨fun t => t.x14⟩
  | 15 => ⟨fun t => t.x15⟩
  | 16 => ⟨fun t => t.x16⟩
  | 17 => ⟨fun t => t.x17⟩
  | 18 => ⟨fun t => t.x18⟩
  | 19 => ⟨fun t => t.x19⟩
  | 20 => ⟨fun t => t.x20⟩
  | 21 => ⟨fun t => t.x21⟩
  | 22 => ⟨fun t => t.x22⟩
  | _ => ⟨fun t => t.x23⟩
def upd : Nat → Bx ((β → β) → N24 β → N24 β)
  | 0 => ⟨fun h t => p0 h t⟩
  | 1 => ⟨fun h t => p1 h t⟩
  | 2 => ⟨fun h t => p2 h t⟩
  | 3 => ⟨fun h t => p3 h t⟩
  | 4 => ⟨fun h t => p4 h t⟩
  | 5 => ⟨fun h t => p5 h t⟩
  | 6 => ⟨fun h t => p6 h t⟩
  | 7 => ⟨fun h t => p7 h t⟩
  | 8 => ⟨fun h t => p8 h t⟩
  | 9 => ⟨fun h t => p9 h t⟩
  | 10 => ⟨fun h t => p10 h t⟩
  | 11 => ⟨fun h t => p11 h t⟩
  | 12 => ⟨fun h t => p12 h t⟩
  | 13 => ⟨fun h t => p13 h t⟩
  | 14 => ⟨fun h t => p14 h t⟩
  | 15 => ⟨fun h t => p15 h t⟩
  | 16 => ⟨fun h t => p16 h t⟩
  | 17 => ⟨fun h t => p17 h t⟩
  | 18 => ⟨fun h t => p18 h t⟩
  | 19 => ⟨fun h t => p19 h t⟩
  | 20 => ⟨fun h t => p20 h t⟩
  | 21 => ⟨fun h t => p21 h t⟩
  | 22 => ⟨fun h t => p22 h t⟩
  | _ => ⟨fun h t => p23 h t⟩
end N24

/-- What is known of one cell. any: nothing. emp: a slice of no elements, wherever it begins. -/
inductive Oth where
  | any
  | nilp
  | slc (b off len cap : Nat) (ex : Nat)
  | nils
  | emp
  | map (b : Nat)
  | nilm
  | fn (f : FuncId) (first captured : List (Nat × Nat))
  | nilf
  | ifc (t : TypeId) (b : Nat)
  | nili
  /-- a whole number that hangs on unknown ones: c and so many times each -/
  | sy (k : IntKind) (c : Int) (l : List (Nat × Int))
  /-- an unknown string, by number -/
  | ss (i : Nat)
  /-- a truth that hangs on unknown numbers: 0: at most nought; 1: nought; 2: not nought -/
  | sb (m : Nat) (c : Int) (l : List (Nat × Int))
  /-- the j-th of the values that block b tells in whatever order -/
  | pv (b j : Nat)

inductive Cell where
  | i (k : IntKind) (n : Int)
  | p (b off : Nat)
  | b (x : Bool)
  | s (s : List Nat)
  | o (x : Oth)

/-- A part of a tuple. -/
inductive TV where
  | c (x : Cell)
  | a (l : List Cell)

inductive AV where
  | c (x : Cell)
  | a (l : List Cell)
  | t (l : List TV)

abbrev AV.any : AV := .c (.o .any)
abbrev AV.int (k : IntKind) (n : Int) : AV := .c (.i k n)
abbrev AV.ptr (b off : Nat) : AV := .c (.p b off)
abbrev AV.bool (b : Bool) : AV := .c (.b b)
abbrev AV.str (s : List Nat) : AV := .c (.s s)
abbrev AV.oth (x : Oth) : AV := .c (.o x)

section
variable {α : Type}
def AV.onC (v : AV) (k : Cell → α) (e : α) : α := AV.casesOn v (fun x => k x) (fun _ => e) (fun _ => e)
def AV.onA (v : AV) (k : List Cell → α) (e : α) : α := AV.casesOn v (fun _ => e) (fun l => k l) (fun _ => e)
def AV.onT (v : AV) (k : List TV → α) (e : α) : α := AV.casesOn v (fun _ => e) (fun _ => e) (fun l => k l)
def AV.onP (v : AV) (k : Nat → Nat → α) (e : α) : α := AV.casesOn v (fun x => Cell.casesOn x (fun _ _ => e) (fun b o => k b o) (fun _ => e) (fun _ => e) (fun _ => e)) (fun _ => e) (fun _ => e)
def AV.onI (v : AV) (k : IntKind → Int → α) (e : α) : α := AV.casesOn v (fun x => Cell.casesOn x (fun j n => k j n) (fun _ _ => e) (fun _ => e) (fun _ => e) (fun _ => e)) (fun _ => e) (fun _ => e)
/-- A whole number from nought on. -/
def AV.onN (v : AV) (k : Nat → α) (e : α) : α := v.onI (fun _ n => Int.casesOn n (fun m => k m) (fun _ => e)) e
def AV.onB (v : AV) (k : Bool → α) (e : α) : α := AV.casesOn v (fun x => Cell.casesOn x (fun _ _ => e) (fun _ _ => e) (fun b => k b) (fun _ => e) (fun _ => e)) (fun _ => e) (fun _ => e)
def AV.onS (v : AV) (k : List Nat → α) (e : α) : α := AV.casesOn v (fun x => Cell.casesOn x (fun _ _ => e) (fun _ _ => e) (fun _ => e) (fun s => k s) (fun _ => e)) (fun _ => e) (fun _ => e)
def AV.onO (v : AV) (k : Oth → α) (e : α) : α := AV.casesOn v (fun x => Cell.casesOn x (fun _ _ => e) (fun _ _ => e) (fun _ => e) (fun _ => e) (fun x => k x)) (fun _ => e) (fun _ => e)
def onSome {β : Type} (o : Option β) (k : β → α) (e : α) : α := Option.casesOn o e (fun b => k b)
def ifb (b : Bool) (t e : α) : α := Bool.casesOn b e t
end

/-- What is known of unknown numbers and strings. -/
inductive Fact where
  /-- at most nought -/
  | le (c : Int) (l : List (Nat × Int))
  /-- the unknown number i is that by k, cut towards nought -/
  | quo (i : Nat) (c : Int) (l : List (Nat × Int)) (k : Int)
  /-- the unknown number i is the product -/
  | mul (i : Nat) (c : Int) (l : List (Nat × Int)) (d : Int) (m : List (Nat × Int))
  /-- the unknown string i is not that one -/
  | sne (i : Nat) (s : List Nat)
  /-- the unknown number v is the length of the unknown string i -/
  | len (v i : Nat)

/-- A block of memory, as far as it is known. -/
inductive ABlk where
  | none
  | cells (e : TypeId) (l : List Cell) (rel : List Nat) (old : Bool)
  | map (es : List (AV × AV × Nat)) (clock : Nat)
  | iter (m : Option Nat) (since : Nat) (seen : List Nat) (stepped : Nat)
  /-- no block of memory: facts -/
  | facts (l : List Fact)
  /-- no block of memory: values, in groups, in whatever order -/
  | perm (gs : List (List Cell))

abbrev T := N24 (N24 AV)
abbrev Hp := N24 (N24 (N24 ABlk))
def T.zero : T := N24.all (N24.all .any)
def Hp.zero : Hp := N24.all (N24.all (N24.all .none))

def getT (i : Nat) : Bx (T → AV) :=
  match Nat.blt i 576 with
  | true => (N24.sel (Nat.mod i 24)).use fun f => (N24.sel (Nat.div i 24)).use fun g => ⟨fun t => f (g t)⟩
  | false => ⟨fun _ => .any⟩
def putT (i : Nat) : Bx (AV → T → T) :=
  match Nat.blt i 576 with
  | true => (N24.upd (Nat.div i 24)).use fun f => (N24.upd (Nat.mod i 24)).use fun g => ⟨fun v t => f (fun t => g (fun _ => v) t) t⟩
  | false => ⟨fun _ t => t⟩
def getH (b : Nat) : Bx (Hp → ABlk) :=
  match Nat.blt b 13824 with
  | true => (N24.sel (Nat.mod b 24)).use fun f => (N24.sel (Nat.mod (Nat.div b 24) 24)).use fun g => (N24.sel (Nat.div b 576)).use fun h => ⟨fun t => f (g (h t))⟩
  | false => ⟨fun _ => .none⟩
def putH (b : Nat) : Bx (ABlk → Hp → Hp) :=
  match Nat.blt b 13824 with
  | true => (N24.upd (Nat.div b 576)).use fun f => (N24.upd (Nat.mod (Nat.div b 24) 24)).use fun g => (N24.upd (Nat.mod b 24)).use fun h => ⟨fun v t => f (fun t => g (fun t => h (fun _ => v) t) t) t⟩
  | false => ⟨fun _ t => t⟩

/-- What is known of memory; 'next' less one is the next block's number; no block below 'dirty' has been written since that was set. -/
structure St where
  heap : Hp
  next : Nat
  dirty : Nat
def minN (a b : Nat) : Nat := Bool.casesOn (Nat.ble a b) b a
def lowd (b : Nat) : List Nat → Nat → Nat
  | [], d => minN b d
  | c :: l, d => lowd b l (minN c d)

inductive R (α : Type) where
  | err (s : String)
  | one (a : α)
  | many (l : List α)

namespace R
variable {α β : Type}
def app : R α → R α → R α
  | .err s, _ => .err s
  | _, .err s => .err s
  | .one a, .one b => .many [a, b]
  | .one a, .many l => .many (a :: l)
  | .many l, .one a => .many (l ++ [a])
  | .many l, .many m => .many (l ++ m)
def all (f : α → R β) : List α → R β
  | [] => .many []
  | a :: l => app (f a) (all f l)
def bind (r : R α) (f : α → R β) : R β := R.casesOn r (fun s => .err s) (fun a => f a) (fun l => all f l)
end R

/-- Functions without a body. -/
inductive Ext where
  | add64 | mapsClone

/-- Types and functions, by number; and functions that have no body. -/
structure Tab where
  info : Nat → Option TypeInfo
  fn : Nat → Option Func
  ext : Nat → Option Ext
  /-- Functions that are run by themselves: of numbers, truths and strings they make such. -/
  pure : Nat → Bool
  /-- Those of them that call few others. -/
  leaf : Nat → Bool
  /-- Functions of which it is proved what they do, at some arguments. -/
  sum : Nat → Option ((Nat → List AV → St → R (AV × St)) → List AV → St → Option (R (AV × St)))

/-! ### values -/
def nats (s : ByteArray) : List Nat := s.data.toList.map UInt8.toNat

/-- A value without an address, as a cell. -/
def ofC : Value → Cell
  | .bool b => .b b
  | .int k n => .i k n
  | .string s => .s (nats s)
  | .pointer none => .o .nilp
  | .slice none 0 0 => .o .nils
  | .map none => .o .nilm
  | .nilFunc => .o .nilf
  | .nilIface => .o .nili
  | .func (.func f) ⟨[]⟩ ⟨[]⟩ => .o (.fn f [] [])
  | _ => .o .any
def ofV : Value → AV
  | .agg cs => .a (cs.toList.map ofC)
  | .tuple _ => .any
  | v => .c (ofC v)

def Cell.flat (x : Cell) : Bool := Cell.casesOn x (fun _ _ => true) (fun _ _ => true) (fun _ => true) (fun _ => true)
  (fun x => Oth.casesOn x false true (fun _ _ _ _ _ => true) true true (fun _ => true) true (fun _ _ _ => true) true (fun _ _ => true) true (fun _ _ _ => true) (fun _ => true) (fun _ _ _ => true) (fun _ _ => false))
def flats : List Cell → Bool
  | [] => true
  | v :: l => ifb v.flat (flats l) false
/-- The cells of a value. -/
def AV.cells (v : AV) : Option (List Cell) := AV.casesOn v (fun x => ifb x.flat (some [x]) none) (fun l => some l) (fun _ => none)

def ltNats : List Nat → List Nat → Bool
  | _, [] => false
  | [], _ :: _ => true
  | a :: x, b :: y => ifb (Nat.blt a b) true (ifb (Nat.beq a b) (ltNats x y) false)
def eqNats : List Nat → List Nat → Bool
  | [], [] => true
  | a :: x, b :: y => ifb (Nat.beq a b) (eqNats x y) false
  | _, _ => false

def ltI (a b : Int) : Bool := Int.casesOn a (fun a => Int.casesOn b (fun b => Nat.blt a b) (fun _ => false)) (fun a => Int.casesOn b (fun _ => true) (fun b => Nat.blt b a))
def eqI (a b : Int) : Bool := Int.casesOn a (fun a => Int.casesOn b (fun b => Nat.beq a b) (fun _ => false)) (fun a => Int.casesOn b (fun _ => false) (fun b => Nat.beq a b))
/-- Wrap-round, quick where nothing is to be done. -/
def wrapF : IntKind → Bx (Int → Int)
  | .i64 => ⟨fun n => Int.casesOn n (fun m => ifb (Nat.blt m 9223372036854775808) (.ofNat m) (IntKind.i64.wrap (.ofNat m))) (fun m => ifb (Nat.blt m 9223372036854775808) (.negSucc m) (IntKind.i64.wrap (.negSucc m)))⟩
  | .u8 => ⟨fun n => Int.casesOn n (fun m => .ofNat (Nat.mod m 256)) (fun m => IntKind.u8.wrap (.negSucc m))⟩
  | .u64 => ⟨fun n => Int.casesOn n (fun m => .ofNat (Nat.mod m 18446744073709551616)) (fun m => IntKind.u64.wrap (.negSucc m))⟩
  | k => ⟨fun n => k.wrap n⟩

/-! ### unknown numbers -/
def sameLin : List (Nat × Int) → List (Nat × Int) → Bool
  | [], [] => true
  | p :: l, q :: m => ifb (Nat.beq p.1 q.1) (ifb (eqI p.2 q.2) (sameLin l m) false) false
  | _, _ => false
def insL (v : Nat) (k : Int) : List (Nat × Int) → List (Nat × Int)
  | [] => [(v, k)]
  | p :: l => ifb (Nat.beq p.1 v) (ifb (eqI (Int.add p.2 k) 0) l ((v, Int.add p.2 k) :: l)) (ifb (Nat.blt v p.1) ((v, k) :: p :: l) (p :: insL v k l))
def addL : List (Nat × Int) → List (Nat × Int) → List (Nat × Int)
  | [], m => m
  | p :: l, m => insL p.1 p.2 (addL l m)
def sclL (k : Int) : List (Nat × Int) → List (Nat × Int)
  | [] => []
  | p :: l => (p.1, Int.mul k p.2) :: sclL k l
def negL (l : List (Nat × Int)) : List (Nat × Int) := sclL (-1) l

/-- The least bound that is told of an unknown number from above; of its opposite. -/
def ubV (v : Nat) (up : Bool) : List Fact → Option Int
  | [] => none
  | .le c [(w, k)] :: F => ifb (ifb (Nat.beq w v) (eqI k (ifb up 1 (-1))) false)
      (onSome (ubV v up F) (fun r => some (ifb (ltI (Int.neg c) r) (Int.neg c) r)) (some (Int.neg c))) (ubV v up F)
  | _ :: F => ubV v up F
/-- A bound of a sum from above. -/
def ubL (F : List Fact) : List (Nat × Int) → Option Int
  | [] => some 0
  | p :: l => onSome (ubL F l) (fun r => ifb (ltI p.2 0)
      (onSome (ubV p.1 false F) (fun b => some (Int.add r (Int.mul (Int.neg p.2) b))) none)
      (onSome (ubV p.1 true F) (fun b => some (Int.add r (Int.mul p.2 b))) none)) none
def ubLe (F : List Fact) (c : Int) (l : List (Nat × Int)) : Bool := onSome (ubL F l) (fun b => !(ltI 0 (Int.add c b))) false
/-- By one fact; by two. -/
def by1 (F : List Fact) (c : Int) (l : List (Nat × Int)) : List Fact → Bool
  | [] => false
  | .le d (p :: q :: m) :: G => ifb (ubLe F (Int.sub c d) (addL l (negL (p :: q :: m)))) true (by1 F c l G)
  | _ :: G => by1 F c l G
def by2 (F : List Fact) (c : Int) (l : List (Nat × Int)) : List Fact → Bool
  | [] => false
  | .le d (p :: q :: m) :: G => ifb (by1 F (Int.sub c d) (addL l (negL (p :: q :: m))) G) true (by2 F c l G)
  | _ :: G => by2 F c l G
/-- Is it told that c and so many are at most nought? -/
def provesLe (F : List Fact) (c : Int) (l : List (Nat × Int)) : Bool := ifb (ubLe F c l) true (ifb (by1 F c l F) true (by2 F c l F))
def decLe (F : List Fact) (c : Int) (l : List (Nat × Int)) : Option Bool :=
  ifb (provesLe F c l) (some true) (ifb (provesLe F (Int.sub 1 c) (negL l)) (some false) none)
def decEq (F : List Fact) (c : Int) (l : List (Nat × Int)) : Option Bool :=
  ifb (ifb (provesLe F (Int.add c 1) l) true (provesLe F (Int.sub 1 c) (negL l))) (some false)
    (ifb (ifb (provesLe F c l) (provesLe F (Int.neg c) (negL l)) false) (some true) none)

/-! ### types -/
/-- Is a type's value many cells? How many? -/
inductive Shape where
  | one | many (n : Nat) | none
namespace Tab
def und (Γ : Tab) (t : TypeId) : Option TypeDesc :=
  match Γ.info t with
  | some { desc := .named _ u, .. } => match Γ.info u with
    | some i => some i.desc
    | none => none
  | some i => some i.desc
  | none => none
def size (Γ : Tab) (t : TypeId) : Option Nat :=
  match Γ.info t with
  | some i => some i.size
  | none => none
def zero (Γ : Tab) (t : TypeId) : Option AV :=
  match Γ.info t with
  | some i => match i.zero with
    | some v => some (ofV v)
    | none => none
  | none => none
def zcells (Γ : Tab) (t : TypeId) : Option (List Cell) :=
  match Γ.zero t with
  | some v => v.cells
  | none => none
def shape (Γ : Tab) (t : TypeId) : Shape :=
  match Γ.und t with
  | some (.struct _) | some (.array _ _) => match Γ.size t with
    | some n => .many n
    | none => .none
  | some _ => .one
  | none => .none
end Tab

def takeN {α : Type} : Nat → List α → Option (List α)
  | 0, _ => some []
  | n + 1, a :: l => onSome (takeN n l) (fun l => some (a :: l)) none
  | _ + 1, [] => none
def dropN {α : Type} : Nat → List α → List α
  | 0, l => l
  | n + 1, _ :: l => dropN n l
  | _ + 1, [] => []
def nth {α : Type} : Nat → List α → Option α
  | 0, a :: _ => some a
  | n + 1, _ :: l => nth n l
  | _, [] => none

def partB (Γ : Tab) (t : TypeId) (off : Nat) : Bx (List Cell → Option AV) :=
  match Γ.shape t with
  | .many n => ⟨fun cs => onSome (takeN n (dropN off cs)) (fun l => some (.a l)) none⟩
  | .one => ⟨fun cs => onSome (nth off cs) (fun x => some (.c x)) none⟩
  | .none => ⟨fun _ => none⟩

abbrev EqB := Bx (List Fact → AV → AV → Option Bool)

def eqFieldsB (Γ : Tab) (r : TypeId → EqB) : List Field → Bx (List Fact → List Cell → List Cell → Option Bool)
  | [] => ⟨fun _ _ _ => some true⟩
  | f :: fs =>
    match decide (f.name = "_") with
    | true => eqFieldsB Γ r fs
    | false => ⟨fun F xs ys =>
      onSome ((partB Γ f.type f.offset).run xs) (fun a => onSome ((partB Γ f.type f.offset).run ys) (fun b =>
        onSome ((r f.type).run F a b) (fun e => ifb e ((eqFieldsB Γ r fs).run F xs ys) (some false)) none) none) none⟩

def eqElemsB (Γ : Tab) (r : TypeId → EqB) (e : TypeId) (n : Nat) : Nat → Nat → Bx (List Fact → List Cell → List Cell → Option Bool)
  | 0, _ => ⟨fun _ _ _ => some true⟩
  | k + 1, i => ⟨fun F xs ys =>
      onSome ((partB Γ e (Nat.mul i n)).run xs) (fun a => onSome ((partB Γ e (Nat.mul i n)).run ys) (fun b =>
        onSome ((r e).run F a b) (fun q => ifb q ((eqElemsB Γ r e n k (Nat.succ i)).run F xs ys) (some false)) none) none) none⟩

def kn (k : IntKind) : Nat := IntKind.casesOn k 0 1 2 3 4 5 6 7
def eqK (a b : IntKind) : Bool := Nat.beq (kn a) (kn b)

/-- A whole number as a sum. -/
def AV.onL {α : Type} (v : AV) (k : IntKind → Int → List (Nat × Int) → α) (e : α) : α := AV.casesOn v (fun x => Cell.casesOn x (fun j n => k j n []) (fun _ _ => e) (fun _ => e) (fun _ => e)
  (fun x => match x with
    | .sy j d l => k j d l
    | _ => e)) (fun _ => e) (fun _ => e)
def findSne (i : Nat) (s : List Nat) : List Fact → Option Bool
  | [] => none
  | .sne j s' :: F => ifb (ifb (Nat.beq i j) (eqNats s s') false) (some false) (findSne i s F)
  | _ :: F => findSne i s F
/-- Two strings, of which one is unknown: are they equal? -/
def symS (F : List Fact) (x y : AV) : Option Bool := x.onO (fun x => match x with
    | .ss i => y.onO (fun y => match y with
      | .ss j => ifb (Nat.beq i j) (some true) none
      | _ => none) (y.onS (fun s => findSne i s F) none)
    | _ => none) (x.onS (fun s => y.onO (fun y => match y with
      | .ss i => findSne i s F
      | _ => none) none) none)
/-- Two whole numbers, of which one is unknown: are they equal? -/
def symI (F : List Fact) (x y : AV) : Option Bool := x.onL (fun k c l => y.onL (fun j d m => ifb (eqK k j) (decEq F (Int.sub c d) (addL l (negL m))) none) none) none

/-- Equality by a type. -/
def eqB (P : Program) (Γ : Tab) : Nat → TypeId → EqB
  | 0, _ => ⟨fun _ _ _ => none⟩
  | d + 1, t =>
    match Γ.und t with
    | some .bool => ⟨fun _ x y => x.onB (fun a => y.onB (fun b => some (ifb a b (!b))) none) none⟩
    | some (.int _) => ⟨fun F x y => x.onI (fun k a => y.onI (fun j b => ifb (eqK k j) (some (eqI a b)) none) (symI F x y)) (symI F x y)⟩
    | some .string => ⟨fun F x y => x.onS (fun a => y.onS (fun b => some (eqNats a b)) (symS F x y)) (symS F x y)⟩
    | some (.struct fs) => match P.stoodInHeld t with
      | true => ⟨fun _ _ _ => none⟩
      | false => ⟨fun F x y => x.onA (fun xs => y.onA (fun ys => (eqFieldsB Γ (eqB P Γ d) fs.toList).run F xs ys) none) none⟩
    | some (.array len e) => match Γ.size e with
      | some n => ⟨fun F x y => x.onA (fun xs => y.onA (fun ys => (eqElemsB Γ (eqB P Γ d) e n len 0).run F xs ys) none) none⟩
      | none => ⟨fun _ _ _ => none⟩
    | _ => ⟨fun _ _ _ => none⟩

/-! ### memory -/
def hget (σ : St) (b : Nat) : ABlk := St.casesOn σ fun h _ _ => (getH b).run h
def hput (h : Hp) (b : Nat) (x : ABlk) : Hp := (putH b).run x h

section
variable {α : Type}
def ABlk.onCells (x : ABlk) (k : TypeId → List Cell → List Nat → Bool → α) (e : α) : α := ABlk.casesOn x e (fun t l r o => k t l r o) (fun _ _ => e) (fun _ _ _ _ => e) (fun _ => e) (fun _ => e)
def ABlk.onMap (x : ABlk) (k : List (AV × AV × Nat) → Nat → α) (e : α) : α := ABlk.casesOn x e (fun _ _ _ _ => e) (fun es c => k es c) (fun _ _ _ _ => e) (fun _ => e) (fun _ => e)
def ABlk.onIter (x : ABlk) (k : Option Nat → Nat → List Nat → Nat → α) (e : α) : α := ABlk.casesOn x e (fun _ _ _ _ => e) (fun _ _ => e) (fun m s l t => k m s l t) (fun _ => e) (fun _ => e)
end

def factsOf (σ : St) : List Fact := ABlk.casesOn (hget σ 0) [] (fun _ _ _ _ => []) (fun _ _ => []) (fun _ _ _ _ => []) (fun l => l) (fun _ => [])

def rdCells (σ : St) (b off n : Nat) : Option (List Cell) := (hget σ b).onCells (fun _ l _ _ => takeN n (dropN off l)) none

def setAll : Nat → List Cell → List Cell → Option (List Cell)
  | 0, l, [] => some l
  | 0, _ :: l, v :: vs => onSome (setAll 0 l vs) (fun l => some (v :: l)) none
  | 0, [], _ :: _ => none
  | n + 1, a :: l, vs => onSome (setAll n l vs) (fun l => some (a :: l)) none
  | _ + 1, [], _ => none

def kill : List Nat → Hp → Hp
  | [], h => h
  | b :: l, h => kill l (hput h b .none)

/-- Cells are written into a block. -/
def wrCells (σ : St) (b off : Nat) (vs : List Cell) : Option St :=
  ifb vs.isEmpty none <| (hget σ b).onCells (fun e l rel old => ifb old none
    (onSome (setAll off l vs) (fun l' => St.casesOn σ fun h n d => some ⟨hput (kill rel h) b (.cells e l' [] false), n, lowd b rel d⟩) none)) none

/-- A new block; its number is handed to what makes the value. -/
def newBlk {α : Type} (σ : St) (o : ABlk) (v : Nat → α) : Option (α × St) :=
  St.casesOn σ fun h m d => Nat.casesOn m none (fun n => ifb (Nat.blt n 13824) (some (v n, ⟨hput h n o, Nat.succ (Nat.succ n), d⟩)) none)

def fillA (place : Nat → Option (Nat × Nat)) : List Cell → List (Nat × AV) → Option (List Cell)
  | cells, [] => some cells
  | cells, p :: rest =>
    onSome (place p.1) (fun q => onSome p.2.cells (fun cs => ifb (Nat.beq cs.length q.2) (onSome (setAll q.1 cells cs) (fun l => fillA place l rest) none) none) none) none

def rep (zero : List Cell) : Nat → List Cell
  | 0 => []
  | n + 1 => zero ++ rep zero n

end Go.Ev
