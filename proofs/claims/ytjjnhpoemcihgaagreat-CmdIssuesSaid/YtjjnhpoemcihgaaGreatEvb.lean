/-
  The evaluator's operations and its run: definitions alone.
-/
import Derived.Test.YtjjnhpoemcihgaaGreatEva
namespace Go.Ev

/-- A function of two whole numbers of one kind. -/
def intB : BinOp → Bx (IntKind → Int → Int → Option AV)
  | .add => ⟨fun k a b => some (.int k ((wrapF k).run (Int.add a b)))⟩
  | .sub => ⟨fun k a b => some (.int k ((wrapF k).run (Int.sub a b)))⟩
  | .mul => ⟨fun k a b => some (.int k ((wrapF k).run (Int.mul a b)))⟩
  | .quo => ⟨fun k a b => ifb (eqI b 0) none (some (.int k ((wrapF k).run (Int.tdiv a b))))⟩
  | .rem => ⟨fun k a b => ifb (eqI b 0) none (some (.int k (Int.tmod a b)))⟩
  | .and => ⟨fun k a b => some (.int k (k.wrap ((BitVec.ofInt k.bits a &&& BitVec.ofInt k.bits b).toNat)))⟩
  | .or => ⟨fun k a b => some (.int k (k.wrap ((BitVec.ofInt k.bits a ||| BitVec.ofInt k.bits b).toNat)))⟩
  | .xor => ⟨fun k a b => some (.int k (k.wrap ((BitVec.ofInt k.bits a ^^^ BitVec.ofInt k.bits b).toNat)))⟩
  | .andNot => ⟨fun k a b => some (.int k (k.wrap ((BitVec.ofInt k.bits a &&& ~~~ BitVec.ofInt k.bits b).toNat)))⟩
  | .eql => ⟨fun _ a b => some (.bool (eqI a b))⟩
  | .neq => ⟨fun _ a b => some (.bool (!(eqI a b)))⟩
  | .lss => ⟨fun _ a b => some (.bool (ltI a b))⟩
  | .leq => ⟨fun _ a b => some (.bool (!(ltI b a)))⟩
  | .gtr => ⟨fun _ a b => some (.bool (ltI b a))⟩
  | .geq => ⟨fun _ a b => some (.bool (!(ltI a b)))⟩
  | _ => ⟨fun _ _ _ => none⟩

def strB : BinOp → Bx (List Nat → List Nat → Option AV)
  | .add => ⟨fun a b => ifb (Nat.blt (Nat.add a.length b.length) 4294967296) (some (.str (a ++ b))) none⟩
  | .eql => ⟨fun a b => some (.bool (eqNats a b))⟩
  | .neq => ⟨fun a b => some (.bool (!(eqNats a b)))⟩
  | .lss => ⟨fun a b => some (.bool (ltNats a b))⟩
  | .leq => ⟨fun a b => some (.bool (ifb (ltNats a b) true (eqNats a b)))⟩
  | .gtr => ⟨fun a b => some (.bool (!(ifb (ltNats a b) true (eqNats a b))))⟩
  | .geq => ⟨fun a b => some (.bool (!(ltNats a b)))⟩
  | _ => ⟨fun _ _ => none⟩

def has (b : Nat) : List Nat → Bool
  | [] => false
  | a :: l => ifb (Nat.beq a b) true (has b l)

/-- May two blocks lie on each other? -/
def related (σ : St) (a b : Nat) : Bool :=
  (hget σ a).onCells (fun _ _ r _ => (hget σ b).onCells (fun _ _ s _ => ifb (has b r) true (has a s)) true) true

/-- Equality of two values, by the type at which they are compared. -/
def eqAB (P : Program) (Γ : Tab) (t : TypeId) : Bx (St → AV → AV → Option Bool) :=
  match Γ.und t with
  | some (.pointer e) => match Γ.size e with
    | some (_ + 1) => ⟨fun σ x y =>
        x.onP (fun a i => y.onP (fun b j => ifb (Nat.beq a b) (some (Nat.beq i j)) (ifb (related σ a b) none (some false)))
            (y.onO (fun y => match y with
              | .nilp => some false
              | _ => none) none))
          (x.onO (fun x => match x with
            | .nilp => y.onP (fun _ _ => some false) (y.onO (fun y => match y with
              | .nilp => some true
              | _ => none) none)
            | _ => none) none)⟩
    | _ => ⟨fun _ _ _ => none⟩
  | some (.slice _) => ⟨fun _ x y => x.onO (fun x => y.onO (fun y => match x, y with
      | .nils, .nils => some true
      | .nils, .slc .. => some false
      | .slc .., .nils => some false
      | _, _ => none) none) none⟩
  | some (.map _ _) => ⟨fun _ x y => x.onO (fun x => y.onO (fun y => match x, y with
      | .nilm, .nilm => some true
      | .nilm, .map _ => some false
      | .map _, .nilm => some false
      | _, _ => none) none) none⟩
  | some (.func _ _ _) => ⟨fun _ x y => x.onO (fun x => y.onO (fun y => match x, y with
      | .nilf, .nilf => some true
      | .nilf, .fn .. => some false
      | .fn .., .nilf => some false
      | _, _ => none) none) none⟩
  | some (.interface _) => ⟨fun _ x y => x.onO (fun x => y.onO (fun y => match x, y with
      | .nili, .ifc _ _ => some false
      | .ifc _ _, .nili => some false
      | _, _ => none) none) none⟩
  | some (.struct _) | some (.array _ _) => match P.eqGuardType P.depth t with
    | true => ⟨fun _ _ _ => none⟩
    | false => ⟨fun σ x y => (eqB P Γ 10000 t).run (factsOf σ) x y⟩
  | some .bool => ⟨fun _ x y => x.onB (fun a => y.onB (fun b => some (ifb a b (!b))) none) none⟩
  | _ => ⟨fun _ _ _ => none⟩

def shiftN (k : IntKind) (b : Nat) : Nat := ifb (Nat.ble b k.bits) b k.bits

def maxI (k : IntKind) : Int := IntKind.casesOn k 127 32767 2147483647 9223372036854775807 255 65535 4294967295 18446744073709551615
def minI (k : IntKind) : Int := IntKind.casesOn k (-128) (-32768) (-2147483648) (-9223372036854775808) 0 0 0 0
/-- A sum as a value, where it is told that it fits its kind. -/
def mkSy (F : List Fact) (k : IntKind) (c : Int) (l : List (Nat × Int)) : Option AV := match l with
  | [] => some (.int k ((wrapF k).run c))
  | _ => ifb (ifb (provesLe F (Int.sub c (maxI k)) l) (provesLe F (Int.sub (minI k) c) (negL l)) false) (some (.oth (.sy k c l))) none
def mkSy' (F : List Fact) (k : IntKind) (c : Int) (l : List (Nat × Int)) : Option AV :=
  ifb (ifb (provesLe F (Int.sub c (maxI k)) l) (provesLe F (Int.sub (minI k) c) (negL l)) false) (some (.oth (.sy k c l))) none
def mkSb (F : List Fact) (m : Nat) (c : Int) (l : List (Nat × Int)) : AV := match m with
  | 0 => onSome (decLe F c l) (fun b => .bool b) (.oth (.sb 0 c l))
  | 1 => onSome (decEq F c l) (fun b => .bool b) (.oth (.sb 1 c l))
  | _ => onSome (decEq F c l) (fun b => .bool (!b)) (.oth (.sb 2 c l))
def findQuo (c : Int) (l : List (Nat × Int)) (k : Int) : List Fact → Option Nat
  | [] => none
  | .quo i c' l' k' :: F => ifb (ifb (eqI c c') (ifb (eqI k k') (sameLin l l') false) false) (some i) (findQuo c l k F)
  | _ :: F => findQuo c l k F
def findMul (c : Int) (l : List (Nat × Int)) (d : Int) (m : List (Nat × Int)) : List Fact → Option Nat
  | [] => none
  | .mul i c' l' d' m' :: F => ifb (ifb (eqI c c') (ifb (eqI d d') (ifb (sameLin l l') (sameLin m m') false) false) false) (some i) (findMul c l d m F)
  | _ :: F => findMul c l d m F
/-- Two whole numbers of which one is unknown. -/
def symB : BinOp → Bx (List Fact → IntKind → Int → List (Nat × Int) → Int → List (Nat × Int) → Option AV)
  | .add => ⟨fun F k c l d m => mkSy F k (Int.add c d) (addL l m)⟩
  | .sub => ⟨fun F k c l d m => mkSy F k (Int.sub c d) (addL l (negL m))⟩
  | .mul => ⟨fun F k c l d m => match l, m with
      | [], m => ifb (eqI c 0) (some (.int k 0)) (mkSy F k (Int.mul c d) (sclL c m))
      | l, [] => ifb (eqI d 0) (some (.int k 0)) (mkSy F k (Int.mul c d) (sclL d l))
      | l, m => onSome (findMul c l d m F) (fun i => mkSy F k 0 [(i, 1)]) none⟩
  | .quo => ⟨fun F k c l d m => match m with
      | [] => ifb (ltI 0 d) (onSome (findQuo c l d F) (fun i => mkSy F k 0 [(i, 1)]) none) none
      | _ => none⟩
  | .rem => ⟨fun F k c l d m => match m with
      | [] => ifb (ltI 0 d) (onSome (findQuo c l d F) (fun i => mkSy' F k c (addL l [(i, Int.neg d)])) none) none
      | _ => none⟩
  | .eql => ⟨fun F _ c l d m => some (mkSb F 1 (Int.sub c d) (addL l (negL m)))⟩
  | .neq => ⟨fun F _ c l d m => some (mkSb F 2 (Int.sub c d) (addL l (negL m)))⟩
  | .lss => ⟨fun F _ c l d m => some (mkSb F 0 (Int.add (Int.sub c d) 1) (addL l (negL m)))⟩
  | .leq => ⟨fun F _ c l d m => some (mkSb F 0 (Int.sub c d) (addL l (negL m)))⟩
  | .gtr => ⟨fun F _ c l d m => some (mkSb F 0 (Int.add (Int.sub d c) 1) (addL m (negL l)))⟩
  | .geq => ⟨fun F _ c l d m => some (mkSb F 0 (Int.sub d c) (addL m (negL l)))⟩
  | _ => ⟨fun _ _ _ _ _ _ => none⟩
def symN (op : BinOp) (σ : St) (x y : AV) : Option AV := x.onL (fun k c l => y.onL (fun j d m => ifb (eqK k j) ((symB op).run (factsOf σ) k c l d m) none) none) none
/-- Rows of whole numbers: equal? -/
def symElems (Γ : Tab) (e : TypeId) (n : Nat) : Nat → Nat → Bx (List Fact → List Cell → List Cell → AV → Option AV)
  | 0, _ => ⟨fun _ _ _ v => some v⟩
  | k + 1, i => ⟨fun F xs ys v =>
      onSome ((partB Γ e (Nat.mul i n)).run xs) (fun a => onSome ((partB Γ e (Nat.mul i n)).run ys) (fun b =>
        a.onL (fun k' c l => b.onL (fun j d m => ifb (eqK k' j)
          (onSome (decEq F (Int.sub c d) (addL l (negL m))) (fun q => ifb q ((symElems Γ e n k (Nat.succ i)).run F xs ys v) (some (.bool false)))
            (v.onB (fun t => ifb t ((symElems Γ e n k (Nat.succ i)).run F xs ys (.oth (.sb 1 (Int.sub c d) (addL l (negL m))))) none) none)) none) none) none) none) none⟩
def symRow (P : Program) (Γ : Tab) (t : TypeId) : Bx (St → AV → AV → Option AV) := match Γ.und t with
  | some (.array len e) => match Γ.und e with
    | some (.int _) => match Γ.size e with
      | some n => match P.eqGuardType P.depth t with
        | true => ⟨fun _ _ _ => none⟩
        | false => ⟨fun σ x y => x.onA (fun xs => y.onA (fun ys => (symElems Γ e n len 0).run (factsOf σ) xs ys (.bool true)) none) none⟩
      | none => ⟨fun _ _ _ => none⟩
    | _ => ⟨fun _ _ _ => none⟩
  | _ => ⟨fun _ _ _ => none⟩

def binB0 (P : Program) (Γ : Tab) (op : BinOp) (t : TypeId) : Bx (St → AV → AV → Option AV) :=
  match op with
  | .shl => ⟨fun _ x y => x.onI (fun k a => y.onN (fun b => some (.int k ((wrapF k).run (Int.mul a (.ofNat (Nat.pow 2 (shiftN k b))))))) none) none⟩
  | .shr => ⟨fun _ x y => x.onI (fun k a => y.onN (fun b => some (.int k (Int.fdiv a (.ofNat (Nat.pow 2 (shiftN k b)))))) none) none⟩
  | .eql => ⟨fun σ x y => x.onI (fun k a => y.onI (fun j b => ifb (eqK k j) (some (.bool (eqI a b))) none) none)
      (x.onS (fun a => y.onS (fun b => some (.bool (eqNats a b))) none)
        (onSome ((eqAB P Γ t).run σ x y) (fun r => some (.bool r)) none))⟩
  | .neq => ⟨fun σ x y => x.onI (fun k a => y.onI (fun j b => ifb (eqK k j) (some (.bool (!(eqI a b)))) none) none)
      (x.onS (fun a => y.onS (fun b => some (.bool (!(eqNats a b)))) none)
        (onSome ((eqAB P Γ t).run σ x y) (fun r => some (.bool (!r))) none))⟩
  | op => ⟨fun _ x y => x.onI (fun k a => y.onI (fun j b => ifb (eqK k j) ((intB op).run k a b) none) none)
      (x.onS (fun a => y.onS (fun b => (strB op).run a b) none) none)⟩

/-- The sign of an unknown number. -/
def shrS (σ : St) (x y : AV) : Option AV := x.onO (fun x => match x with
  | .sy k c l => y.onN (fun n => ifb (ifb (eqK k .i64) (Nat.beq n 63) false) (onSome (mkSy' (factsOf σ) .i64 c l) (fun _ => onSome (decLe (factsOf σ) (Int.add c 1) l) (fun b => some (.int .i64 (ifb b (-1) 0))) none) none) none) none
  | _ => none) none
/-- The same where something is unknown. -/
def binS (P : Program) (Γ : Tab) (op : BinOp) (t : TypeId) : Bx (St → AV → AV → Option AV) :=
  match op with
  | .eql => (symRow P Γ t).use fun g => ⟨fun σ x y => onSome (symN .eql σ x y) (fun r => some r) (onSome (symS (factsOf σ) x y) (fun r => some (.bool r)) (g σ x y))⟩
  | .shr => ⟨fun σ x y => shrS σ x y⟩
  | .neq => ⟨fun σ x y => onSome (symN .neq σ x y) (fun r => some r) (onSome (symS (factsOf σ) x y) (fun r => some (.bool (!r))) none)⟩
  | op => ⟨fun σ x y => symN op σ x y⟩
def binB (P : Program) (Γ : Tab) (op : BinOp) (t : TypeId) : Bx (St → AV → AV → Option AV) :=
  (binB0 P Γ op t).use fun f => (binS P Γ op t).use fun g => ⟨fun σ x y => onSome (f σ x y) (fun v => some v) (g σ x y)⟩

def unB : UnOp → Bx (AV → Option AV)
  | .neg => ⟨fun x => x.onI (fun k n => some (.int k ((wrapF k).run (Int.sub 0 n)))) none⟩
  | .not => ⟨fun x => x.onB (fun b => some (.bool (!b))) none⟩
  | .xor => ⟨fun x => x.onI (fun k n => (intB .xor).run k (if k.signed then -1 else k.max) n) none⟩
  | _ => ⟨fun _ => none⟩

/-- The same of what is unknown. -/
def decSb (F : List Fact) (v : AV) : Option Bool := v.onO (fun x => match x with
    | .sb m c l => match m with
      | 0 => decLe F c l
      | 1 => decEq F c l
      | _ => onSome (decEq F c l) (fun b => some (!b)) none
    | _ => none) none
def unS : UnOp → Bx (St → AV → Option AV)
  | .neg => ⟨fun σ x => x.onL (fun k c l => mkSy (factsOf σ) k (Int.neg c) (negL l)) none⟩
  | .not => ⟨fun _ x => x.onO (fun x => match x with
      | .sb m c l => match m with
        | 0 => some (.oth (.sb 0 (Int.sub 1 c) (negL l)))
        | 1 => some (.oth (.sb 2 c l))
        | _ => some (.oth (.sb 1 c l))
      | _ => none) none⟩
  | _ => ⟨fun _ _ => none⟩

def loadB (Γ : Tab) (t : TypeId) : Bx (St → AV → Option AV) :=
  match Γ.shape t with
  | .many n => ⟨fun σ x => x.onP (fun b off => onSome (rdCells σ b off n) (fun l => some (.a l)) none) none⟩
  | .one => ⟨fun σ x => x.onP (fun b off => (hget σ b).onCells (fun _ l _ _ => onSome (nth off l) (fun x => some (.c x)) none) none) none⟩
  | .none => ⟨fun _ _ => none⟩

def findE (q : AV → AV → Option Bool) (k : AV) : List (AV × AV × Nat) → Nat → Option (Option (Nat × AV × Nat))
  | [], _ => some none
  | e :: es, i => onSome (q k e.1) (fun r => ifb r (some (some (i, e.2.1, e.2.2))) (findE q k es (Nat.succ i))) none

/-- May a value be a key (none of its parts is an interface)? -/
def keyOkB (Γ : Tab) : Nat → TypeId → Bx (AV → Bool)
  | 0, _ => ⟨fun _ => false⟩
  | d + 1, t =>
    match Γ.und t with
    | some (.int _) => ⟨fun _ => true⟩
    | some .string => ⟨fun _ => true⟩
    | some .bool => ⟨fun _ => true⟩
    | some (.struct fs) => ⟨fun v => v.onA (fun cs => fs.toList.all fun f => match decide (f.name = "_") with
        | true => true
        | false => onSome ((partB Γ f.type f.offset).run cs) (fun x => (keyOkB Γ d f.type).run x) false) false⟩
    | _ => ⟨fun _ => false⟩

def withOk (ok : Bool) (v : AV) (is : Bool) : Option AV :=
  ifb ok (AV.casesOn v (fun x => some (.t [.c x, .c (.b is)])) (fun l => some (.t [.a l, .c (.b is)])) (fun _ => none)) (some v)

def lookupB (P : Program) (Γ : Tab) (xt : TypeId) (ok : Bool) : Bx (St → AV → AV → Option AV) :=
  match Γ.und xt with
  | some (.map kt et) => match Γ.zero et with
    | some z => ⟨fun σ x k => ifb ((keyOkB Γ 10000 kt).run k) (x.onO (fun x => match x with
        | .nilm => withOk ok z false
        | .map b => (hget σ b).onMap (fun es _ => onSome (findE ((eqB P Γ 10000 kt).run (factsOf σ)) k es 0)
            (fun r => onSome r (fun r => withOk ok r.2.1 true) (withOk ok z false)) none) none
        | _ => none) none) none⟩
    | none => ⟨fun _ _ _ => none⟩
  | _ => ⟨fun _ _ _ => none⟩

def len64 (n : Nat) : AV := .int .i64 (.ofNat n)

def findLen (i : Nat) : List Fact → Option AV
  | [] => none
  | .len v j :: F => ifb (Nat.beq i j) (some (.oth (.sy .i64 0 [(v, 1)]))) (findLen i F)
  | _ :: F => findLen i F
def lenB (Γ : Tab) (t : TypeId) : Bx (St → AV → Option AV) :=
  match Γ.und t with
  | some .string => ⟨fun σ x => x.onS (fun s => some (len64 s.length)) (x.onO (fun x => match x with
    | .ss i => findLen i (factsOf σ)
    | _ => none) none)⟩
  | some (.array n _) => ⟨fun _ _ => some (len64 n)⟩
  | some (.slice _) => ⟨fun _ x => x.onO (fun x => match x with
    | .slc _ _ n _ _ => some (len64 n)
    | .nils | .emp => some (len64 0)
    | _ => none) none⟩
  | some (.map _ _) => ⟨fun σ x => x.onO (fun x => match x with
    | .nilm => some (len64 0)
    | .map b => (hget σ b).onMap (fun es _ => some (len64 es.length)) none
    | _ => none) none⟩
  | some (.pointer a) => match Γ.und a with
    | some (.array n _) => ⟨fun _ _ => some (len64 n)⟩
    | _ => ⟨fun _ _ => none⟩
  | _ => ⟨fun _ _ => none⟩

def fieldAddrB (Γ : Tab) (t : TypeId) (f : Nat) : Bx (AV → Option AV) :=
  match Γ.und t with
  | some (.struct fs) => match nth f fs.toList with
    | some fd => match Γ.size fd.type with
      | some (_ + 1) => ⟨fun x => x.onP (fun b off => some (.ptr b (Nat.add off fd.offset))) none⟩
      | _ => ⟨fun _ => none⟩
    | none => ⟨fun _ => none⟩
  | _ => ⟨fun _ => none⟩

def fieldB (Γ : Tab) (t : TypeId) (f : Nat) : Bx (AV → Option AV) :=
  match Γ.und t with
  | some (.struct fs) => match nth f fs.toList with
    | some fd => ⟨fun x => x.onA (fun cs => (partB Γ fd.type fd.offset).run cs) none⟩
    | none => ⟨fun _ => none⟩
  | _ => ⟨fun _ => none⟩

def indexAddrB (Γ : Tab) (t : TypeId) : Bx (AV → AV → Option AV) :=
  match Γ.und t with
  | some (.slice e) => match Γ.size e with
    | some n => ⟨fun x i => i.onN (fun i => x.onO (fun x => match x with
      | .slc b off len _ _ => ifb (Nat.blt i len) (some (.ptr b (Nat.add off (Nat.mul i n)))) none
      | _ => none) none) none⟩
    | none => ⟨fun _ _ => none⟩
  | some (.array len e) => match Γ.size e with
    | some n => ⟨fun x i => i.onN (fun i => x.onP (fun b off => ifb (Nat.blt i len) (some (.ptr b (Nat.add off (Nat.mul i n)))) none) none) none⟩
    | none => ⟨fun _ _ => none⟩
  | _ => ⟨fun _ _ => none⟩

def indexB (Γ : Tab) (t : TypeId) : Bx (AV → AV → Option AV) :=
  match Γ.und t with
  | some .string => ⟨fun x i => i.onN (fun i => x.onS (fun s => onSome (nth i s) (fun c => some (.int .u8 (.ofNat c))) none) none) none⟩
  | some (.array len e) => match Γ.size e with
    | some n => ⟨fun x i => i.onN (fun i => x.onA (fun cs => ifb (Nat.blt i len) ((partB Γ e (Nat.mul i n)).run cs) none) none) none⟩
    | none => ⟨fun _ _ => none⟩
  | _ => ⟨fun _ _ => none⟩

/-- A bound of a slice expression; none: it is not given. -/
def bnd (x : Option AV) (dflt hi : Nat) : Option Nat :=
  onSome x (fun v => v.onN (fun i => ifb (Nat.ble i hi) (some i) none) none) (some dflt)

def bnd3 (lo hi mx : Option AV) (len cap : Nat) : Option (Nat × Nat × Nat) :=
  onSome (bnd mx cap cap) (fun m =>
    ifb (ifb mx.isSome (!hi.isSome) false) none
      (onSome (bnd hi len m) (fun h => onSome (bnd lo 0 h) (fun l => some (l, h, m)) none) none)) none

/-- s[lo:hi:mx] -/
def sliceB (Γ : Tab) (t : TypeId) : Bx (AV → Option AV → Option AV → Option AV → Option AV) :=
  match Γ.und t with
  | some .string => ⟨fun x lo hi mx => x.onS (fun s => ifb mx.isSome none
      (onSome (bnd3 lo hi none s.length s.length) (fun q => onSome (takeN (Nat.sub q.2.1 q.1) (dropN q.1 s)) (fun r => some (.str r)) none) none)) none⟩
  | some (.slice e) => match Γ.size e with
    | some n => ⟨fun x lo hi mx => x.onO (fun x => match x with
      | .nils => onSome (bnd3 lo hi mx 0 0) (fun _ => some (.oth .nils)) none
      | .emp => ifb mx.isSome none (onSome (bnd3 lo hi none 0 0) (fun _ => some (.oth .emp)) none)
      | .slc b off len cap ex => onSome (bnd3 lo hi mx len cap) (fun q =>
          match ifb mx.isSome 0 ex with
          | 0 => some (.oth (.slc b (ifb (Nat.beq q.2.2 q.1) off (Nat.add off (Nat.mul q.1 n))) (Nat.sub q.2.1 q.1) (Nat.sub q.2.2 q.1) 0))
          | s + 1 => ifb (Nat.beq s n)
            (ifb (Nat.beq q.1 0) (some (.oth (.slc b off q.2.1 q.2.2 (Nat.succ s))))
              (ifb (Nat.blt q.1 q.2.2) (some (.oth (.slc b (Nat.add off (Nat.mul q.1 n)) (Nat.sub q.2.1 q.1) (Nat.sub q.2.2 q.1) (Nat.succ s)))) (some (.oth .emp)))) none) none
      | _ => none) none⟩
    | none => ⟨fun _ _ _ _ => none⟩
  | some (.array len e) => match Γ.size e with
    | some n => ⟨fun x lo hi mx => x.onP (fun b off => onSome (bnd3 lo hi mx len len) (fun q =>
        some (.oth (.slc b (ifb (Nat.beq q.2.2 q.1) off (Nat.add off (Nat.mul q.1 n))) (Nat.sub q.2.1 q.1) (Nat.sub q.2.2 q.1) 0))) none) none⟩
    | none => ⟨fun _ _ _ _ => none⟩
  | _ => ⟨fun _ _ _ _ => none⟩

/-- Where a struct's fields lie, and how many cells they have. -/
def placesS (Γ : Tab) : List Field → Option (List (Nat × Nat))
  | [] => some []
  | f :: fs => match Γ.size f.type with
    | some n => match placesS Γ fs with
      | some l => some ((f.offset, n) :: l)
      | none => none
    | none => none

def buildB (Γ : Tab) (t : TypeId) : Bx (List (Nat × AV) → Option AV) :=
  match Γ.zcells t with
  | some zero => match Γ.und t with
    | some (.struct fs) => match placesS Γ fs.toList with
      | some pl => ⟨fun parts => onSome (fillA (fun i => nth i pl) zero parts) (fun l => some (.a l)) none⟩
      | none => ⟨fun _ => none⟩
    | some (.array _ e) => match Γ.size e with
      | some n => ⟨fun parts => onSome (fillA (fun i => some (Nat.mul i n, n)) zero parts) (fun l => some (.a l)) none⟩
      | none => ⟨fun _ => none⟩
    | _ => ⟨fun _ => none⟩
  | none => ⟨fun _ => none⟩

def byteOf1 (x : Cell) : Option Nat := (AV.c x).onI (fun k n => match k with
  | .u8 => Int.casesOn n (fun n => ifb (Nat.blt n 256) (some n) none) (fun _ => none)
  | _ => none) none
def bytesOf : List Cell → Option (List Nat)
  | [] => some []
  | x :: l => onSome (byteOf1 x) (fun n => onSome (bytesOf l) (fun l => some (n :: l)) none) none

/-- An unknown number of another kind of 64 bits. -/
def convS : IntKind → Bx (List Fact → Int → List (Nat × Int) → Option AV)
  | .i64 => ⟨fun F c l => mkSy' F .i64 (Int.sub c 18446744073709551616) l⟩
  | .u64 => ⟨fun F c l => mkSy' F .u64 (Int.add c 18446744073709551616) l⟩
  | _ => ⟨fun _ _ _ => none⟩
def convB (Γ : Tab) (s d : TypeId) : Bx (St → AV → Option AV) :=
  match Γ.und d with
  | some (.int k) => match Γ.und s with
    | some _ => (convS k).use fun g => ⟨fun σ x => x.onL (fun _ c l => onSome (mkSy (factsOf σ) k c l) (fun v => some v) (g (factsOf σ) c l)) none⟩
    | none => ⟨fun _ _ => none⟩
  | some .string => match Γ.und s with
    | some .string => ⟨fun _ x => x.onS (fun b => some (.str b)) (x.onO (fun x => match x with
      | .ss i => some (.oth (.ss i))
      | _ => none) none)⟩
    | some (.slice e) => match Γ.und e with
      | some (.int .u8) => ⟨fun σ x => x.onO (fun x => match x with
        | .nils => some (.str [])
        | .slc b off n _ _ => onSome (rdCells σ b off n) (fun l => onSome (bytesOf l) (fun s => some (.str s)) none) none
        | _ => none) none⟩
      | _ => ⟨fun _ _ => none⟩
    | _ => ⟨fun _ _ => none⟩
  | _ => ⟨fun _ _ => none⟩

def findBorn (s : Nat) : List (AV × AV × Nat) → Option (AV × AV)
  | [] => none
  | e :: es => ifb (Nat.beq e.2.2 s) (some (e.1, e.2.1)) (findBorn s es)

def toTV (v : AV) : Option TV := AV.casesOn v (fun x => some (.c x)) (fun l => some (.a l)) (fun _ => none)
def ofTV (v : TV) : AV := TV.casesOn v (fun x => .c x) (fun l => .a l)
def tup2 (x y : AV) : Option AV := onSome (toTV x) (fun x => onSome (toTV y) (fun y => some (.t [x, y])) none) none

def entryA (σ : St) (x : AV) : Option AV :=
  x.onP (fun r off => ifb (Nat.beq off 0) ((hget σ r).onIter (fun m _ seen stepped => onSome m (fun m => match seen with
    | [] => none
    | [_] => none
    | s :: s' :: _ => ifb (!(Nat.beq s s')) none <| (hget σ m).onMap (fun es clock => ifb (Nat.beq clock stepped) (onSome (findBorn s es) (fun e => tup2 e.1 e.2) none) none) none) none) none) none) none

def minmax (F : List Fact) (mx : Bool) : AV → List AV → Option AV
  | x, [] => some x
  | x, y :: l => x.onL (fun k c a => y.onL (fun j d b => ifb (eqK k j) (onSome (decLe F (Int.sub c d) (addL a (negL b))) (fun le => minmax F mx (ifb (ifb mx le (!le)) y x) l) none) none) none) none

/-! ### operations that write or make memory -/

def storeB (Γ : Tab) (t : TypeId) : Bx (St → AV → AV → Option St) :=
  match Γ.size t with
  | some n => ⟨fun σ a x => a.onP (fun b off => onSome x.cells (fun cs => ifb (ifb (Nat.beq cs.length n) (flats cs) false) (ifb cs.isEmpty (some σ) (wrCells σ b off cs)) none) none) none⟩
  | none => ⟨fun _ _ _ => none⟩

def mapPut (σ : St) (b : Nat) (es : List (AV × AV × Nat)) (clock : Nat) : St := St.casesOn σ fun h n d => ⟨hput h b (.map es clock), n, lowd b [] d⟩

def setN {α : Type} : Nat → α → List α → List α
  | 0, x, _ :: l => x :: l
  | n + 1, x, a :: l => a :: setN n x l
  | _, _, [] => []
def delN {α : Type} : Nat → List α → List α
  | 0, _ :: l => l
  | n + 1, a :: l => a :: delN n l
  | _, [] => []

def onMapV {α : Type} (x : AV) (k : Nat → α) (e : α) : α := x.onO (fun x => match x with
  | .map b => k b
  | _ => e) e

/-- Are two cells one and the same number, truth or string? -/
def sameC : Cell → Cell → Bool
  | .i k a, .i j b => ifb (eqK k j) (eqI a b) false
  | .b a, .b b => ifb a b (!b)
  | .s a, .s b => eqNats a b
  | _, _ => false
def sameCs : List Cell → List Cell → Bool
  | [], [] => true
  | x :: l, y :: m => ifb (sameC x y) (sameCs l m) false
  | _, _ => false
def sameA : AV → AV → Bool
  | .c x, .c y => sameC x y
  | .a l, .a m => sameCs l m
  | _, _ => false

def mapUpdateB (P : Program) (Γ : Tab) (t : TypeId) : Bx (St → AV → AV → AV → Option St) :=
  match Γ.und t with
  | some (.map kt _) => ⟨fun σ m k v => onMapV m (fun b => ifb ((keyOkB Γ 10000 kt).run k) ((hget σ b).onMap (fun es clock =>
      onSome (findE ((eqB P Γ 10000 kt).run (factsOf σ)) k es 0) (fun r => onSome r
        (fun r => onSome (nth r.1 es) (fun e => ifb (sameA e.1 k) (some (mapPut σ b (setN r.1 (k, v, r.2.2) es) clock)) none) none)
        (some (mapPut σ b (es ++ [(k, v, clock)]) (Nat.succ clock)))) none) none) none) none⟩
  | _ => ⟨fun _ _ _ _ => none⟩

def mapEntryB (P : Program) (Γ : Tab) (t : TypeId) : Bx (St → AV → AV → Option (AV × St)) :=
  match Γ.und t with
  | some (.map kt et) => match Γ.zero et with
    | some z => ⟨fun σ m k => onMapV m (fun b => ifb ((keyOkB Γ 10000 kt).run k) ((hget σ b).onMap (fun es clock =>
        onSome (findE ((eqB P Γ 10000 kt).run (factsOf σ)) k es 0) (fun r => onSome r
          (fun r => onSome (nth r.1 es) (fun e => ifb (sameA e.1 k) (onSome (tup2 r.2.1 (len64 r.2.2)) (fun v => some (v, mapPut σ b (setN r.1 (k, r.2.1, r.2.2) es) clock)) none) none) none)
          (onSome (tup2 z (len64 clock)) (fun v => some (v, mapPut σ b (es ++ [(k, z, clock)]) (Nat.succ clock))) none)) none) none) none) none⟩
    | none => ⟨fun _ _ _ => none⟩
  | _ => ⟨fun _ _ _ => none⟩

def setBorn (s : Nat) (v : AV) : List (AV × AV × Nat) → Option (List (AV × AV × Nat))
  | [] => none
  | e :: es => ifb (Nat.beq e.2.2 s) (some ((e.1, v, e.2.2) :: es)) (onSome (setBorn s v es) (fun es => some (e :: es)) none)

def entryStoreA (σ : St) (m s v : AV) : Option St :=
  onMapV m (fun b => s.onN (fun s => (hget σ b).onMap (fun es clock => onSome (setBorn s v es) (fun es => some (mapPut σ b es clock)) none) none) none) none

def deleteB (P : Program) (Γ : Tab) (t : TypeId) : Bx (St → AV → AV → Option St) :=
  match Γ.und t with
  | some (.map kt _) => ⟨fun σ m k => ifb ((keyOkB Γ 10000 kt).run k) (m.onO (fun m => match m with
      | .nilm => some σ
      | .map b => (hget σ b).onMap (fun es clock => onSome (findE ((eqB P Γ 10000 kt).run (factsOf σ)) k es 0) (fun r => onSome r
          (fun r => some (mapPut σ b (delN r.1 es) clock)) (some σ)) none) none
      | _ => none) none) none⟩
  | _ => ⟨fun _ _ _ => none⟩

def byteC (c : Nat) : Cell := .i .u8 (.ofNat c)
/-- The cells of a slice or of a string. -/
def cellsOfA (σ : St) (size : Nat) (x : AV) : Option (Nat × List Cell) :=
  x.onO (fun x => match x with
    | .nils | .emp => some (0, [])
    | .slc b off n _ _ => onSome (rdCells σ b off (Nat.mul n size)) (fun l => some (n, l)) none
    | _ => none) (x.onS (fun s => ifb (Nat.beq size 1) (some (s.length, s.map byteC)) none) none)

/-- What is appended: the cells of a slice or of a string; or so many zero values. -/
def srcB (Γ : Tab) (u : TypeId) (z : List Cell) : Bx (St → AV → Option (Nat × List Cell)) :=
  match Γ.und u with
  | some (.slice _) => ⟨fun σ x => cellsOfA σ z.length x⟩
  | some .string => ⟨fun σ x => cellsOfA σ z.length x⟩
  | some (.int _) => ⟨fun _ x => x.onN (fun n => ifb (Nat.ble n 65536) (some (n, rep z n)) none) none⟩
  | _ => ⟨fun _ _ => none⟩

def slcV (off len cap : Nat) (ex : Nat) (b : Nat) : AV := .oth (.slc b off len cap ex)

/-- A zero value's cells, where they are as many as the type's size tells and not many bytes. -/
def okZero (Γ : Tab) (e : TypeId) : Option (List Cell) :=
  match Γ.info e with
  | some i => match Γ.zcells e with
    | some z => ifb (ifb (Nat.ble i.bytes 65536) (Nat.beq z.length i.size) false) (some z) none
    | none => none
  | none => none

def appendCells (e : TypeId) (size : Nat) (σ : St) (s : AV) (n : Nat) (new : List Cell) : Option (AV × St) :=
  s.onO (fun s => match s with
  | .nils => match n with
    | 0 => some (.oth .nils, σ)
    | n + 1 => newBlk σ (.cells e new [] false) (slcV 0 (Nat.succ n) (Nat.succ n) (Nat.succ size))
  | .slc b off len cap ex =>
    ifb (Nat.ble (Nat.add len n) cap)
      (match n with
       | 0 => some (.oth (.slc b off len cap ex), σ)
       | n + 1 => onSome (wrCells σ b (Nat.add off (Nat.mul len size)) new) (fun σ => some (.oth (.slc b off (Nat.add len (Nat.succ n)) cap ex), σ)) none)
      (ifb (Nat.ble (Nat.add len n) 2097152) ((hget σ b).onCells (fun e' l rel old => onSome (takeN (Nat.mul len size) (dropN off l)) (fun had =>
           match ex with
           | 0 => newBlk σ (.cells e (had ++ new) [] false) (slcV 0 (Nat.add len n) (Nat.add len n) (Nat.succ size))
           | s + 1 => ifb (ifb old false (ifb (Nat.beq e' e) (Nat.beq s size) false))
               (onSome (takeN (Nat.add off (Nat.mul len size)) l) (fun l' =>
                  newBlk (St.casesOn σ fun h m d => ⟨hput (kill rel h) b (.cells e' l' [] true), m, lowd b rel d⟩) (.cells e (had ++ new) [b] false) (slcV 0 (Nat.add len n) (Nat.add len n) (Nat.succ size))) none)
               none) none) none) none)
  | _ => none) none

def appendB (Γ : Tab) (t u : TypeId) : Bx (St → AV → AV → Option (AV × St)) :=
  match Γ.und t with
  | some (.slice e) => match okZero Γ e with
    | some z => ⟨fun σ s x => onSome ((srcB Γ u z).run σ x) (fun q => ifb (ifb (flats q.2) (Nat.ble q.1 1048576) false) (appendCells e z.length σ s q.1 q.2) none) none⟩
    | none => ⟨fun _ _ _ => none⟩
  | _ => ⟨fun _ _ _ => none⟩

def copyB (Γ : Tab) (t : TypeId) : Bx (St → AV → AV → Option (AV × St)) :=
  match Γ.und t with
  | some (.slice e) => match Γ.size e with
    | some size => ⟨fun σ d s => onSome (cellsOfA σ size s) (fun q => ifb (flats q.2) (d.onO (fun d => match d with
        | .nils | .emp => some (len64 0, σ)
        | .slc b off len _ _ => match ifb (Nat.ble q.1 len) q.1 len with
          | 0 => some (len64 0, σ)
          | n + 1 => onSome (takeN (Nat.mul (Nat.succ n) size) q.2) (fun new => onSome (wrCells σ b off new) (fun σ => some (len64 (Nat.succ n), σ)) none) none
        | _ => none) none) none) none⟩
    | none => ⟨fun _ _ _ => none⟩
  | _ => ⟨fun _ _ _ => none⟩

def clearB (Γ : Tab) (t : TypeId) : Bx (St → AV → Option St) :=
  match Γ.und t with
  | some (.slice e) => match Γ.zcells e with
    | some z => ⟨fun σ x => x.onO (fun x => match x with
      | .nils | .emp => some σ
      | .slc b off len _ _ => match len with
        | 0 => some σ
        | len + 1 => ifb (flats z) (wrCells σ b off (rep z (Nat.succ len))) none
      | _ => none) none⟩
    | none => ⟨fun _ _ => none⟩
  | some (.map _ _) => ⟨fun σ x => x.onO (fun x => match x with
    | .nilm => some σ
    | .map b => (hget σ b).onMap (fun _ clock => some (mapPut σ b [] clock)) none
    | _ => none) none⟩
  | _ => ⟨fun _ _ => none⟩

def unsafeStrB (Γ : Tab) (pt : TypeId) : Bx (St → AV → AV → Option (AV × St)) :=
  match Γ.und pt with
  | some (.pointer e) => match Γ.size e with
    | some 1 => ⟨fun σ p n => n.onN (fun n => match n with
      | 0 => p.onP (fun _ _ => some (.str [], σ)) (p.onO (fun x => match x with
        | .nilp => some (.str [], σ)
        | _ => none) none)
      | n + 1 => p.onP (fun b off => (hget σ b).onCells (fun e' l rel old => ifb (ifb old false (ifb (Nat.beq e e') (Nat.blt (Nat.succ n) 16777216) false)) (onSome (takeN (Nat.succ n) (dropN off l)) (fun r =>
          onSome (bytesOf r) (fun s => some (.str s, St.casesOn σ fun h m d => ⟨hput (kill rel h) b .none, m, lowd b rel d⟩)) none) none) none) none) none) none⟩
    | _ => ⟨fun _ _ _ => none⟩
  | _ => ⟨fun _ _ _ => none⟩

/-- A block to be made, and what is told of it. -/
abbrev New := Option (ABlk × (Nat → AV))
def ptr0 (b : Nat) : AV := .ptr b 0
def mapV (b : Nat) : AV := .oth (.map b)

def makeSliceB (Γ : Tab) (t : TypeId) : Bx (AV → AV → New) :=
  match Γ.und t with
  | some (.slice e) => match okZero Γ e with
    | some z => ⟨fun l c => l.onN (fun l => c.onN (fun c => ifb (ifb (Nat.ble l c) (Nat.blt c 65536) false) (some (.cells e (rep z c) [] false, slcV 0 l c 0)) none) none) none⟩
    | none => ⟨fun _ _ => none⟩
  | _ => ⟨fun _ _ => none⟩

def buildSliceB (Γ : Tab) (t : TypeId) (len : Nat) : Bx (List (Nat × AV) → New) :=
  match Γ.und t with
  | some (.slice e) => match okZero Γ e with
    | some z => ⟨fun parts => ifb (Nat.ble (Nat.mul len z.length) 16777216) (onSome (fillA (fun i => some (Nat.mul i z.length, z.length)) (rep z len) parts) (fun l => some (.cells e l [] false, slcV 0 len len 0)) none) none⟩
    | none => ⟨fun _ => none⟩
  | _ => ⟨fun _ => none⟩

def rangeB (Γ : Tab) (t : TypeId) : Bx (St → AV → Option (AV × St)) :=
  match Γ.und t with
  | some (.map _ _) => ⟨fun σ x => x.onO (fun x => match x with
    | .nilm => newBlk σ (.iter none 0 [] 0) ptr0
    | .map b => (hget σ b).onMap (fun _ clock => newBlk σ (.iter (some b) clock [] clock) ptr0) none
    | _ => none) none⟩
  | _ => ⟨fun _ _ => none⟩

def notIn (seen : List Nat) : List (AV × AV × Nat) → List (AV × AV × Nat)
  | [] => []
  | e :: es => ifb (has e.2.2 seen) (notIn seen es) (e :: notIn seen es)
def allFrom (n : Nat) : List (AV × AV × Nat) → Bool
  | [] => true
  | e :: es => ifb (Nat.ble n e.2.2) (allFrom n es) false
def anyFrom (n : Nat) : List (AV × AV × Nat) → Bool
  | [] => false
  | e :: es => ifb (Nat.ble n e.2.2) true (anyFrom n es)

def over : AV := .t [.c (.b false)]
def nextGo (σ : St) (r m since : Nat) (seen : List Nat) (clock : Nat) (e : AV × AV × Nat) : Option (AV × St) :=
  onSome (toTV e.1) (fun k => onSome (toTV e.2.1) (fun v => some (.t [.c (.b true), k, v], St.casesOn σ fun h n d => ⟨hput h r (.iter (some m) since (e.2.2 :: e.2.2 :: seen) clock), n, lowd r [] d⟩)) none) none
def nextAll (σ : St) (r m since : Nat) (seen : List Nat) (clock : Nat) : List (AV × AV × Nat) → Option (List (AV × St))
  | [] => some []
  | e :: es => onSome (nextGo σ r m since seen clock e) (fun a => onSome (nextAll σ r m since seen clock es) (fun l => some (a :: l)) none) none

def nextA (σ : St) (x : AV) : R (AV × St) :=
  x.onP (fun r off => ifb (Nat.beq off 0) ((hget σ r).onIter (fun m since seen stepped => onSome m (fun m => (hget σ m).onMap (fun es clock =>
        ifb (ifb seen.isEmpty false (ifb es.isEmpty false (allFrom stepped es))) (.err "next")
          (ifb (anyFrom since (notIn seen es)) (.err "next: new entries")
            (match notIn seen es with
             | [] => .one (over, σ)
             | [e] => onSome (nextGo σ r m since seen clock e) (fun a => .one a) (.err "next: tuple")
             | l => onSome (nextAll σ r m since seen clock l) (fun l => .many l) (.err "next: tuple")))) (.err "next: map")) (.one (over, σ))) (.err "next: iterator")) (.err "next: place")) (.err "next: operand")

def opName : Op → String
  | .move _ => "move" | .assign _ => "assign" | .pick .. => "pick" | .alloc _ => "alloc" | .box .. => "box" | .build .. => "build" | .buildSlice .. => "buildSlice"
  | .insert .. => "insert" | .load .. => "load" | .store .. => "store" | .ready _ => "ready" | .waits _ => "waits" | .nilCheck _ => "nilCheck"
  | .binOp .. => "binOp" | .unOp .. => "unOp" | .convert .. => "convert" | .sliceToArrayPointer .. => "s2ap" | .makeInterface .. => "makeIface"
  | .makeFunc .. => "makeFunc" | .makeMap .. => "makeMap" | .makeChan .. => "makeChan" | .makeSlice .. => "makeSlice" | .slice .. => "slice" | .fieldAddr .. => "fieldAddr"
  | .field .. => "field" | .indexAddr .. => "indexAddr" | .index .. => "index" | .lookup .. => "lookup" | .mapUpdate .. => "mapUpdate" | .mapEntry .. => "mapEntry"
  | .entryStore .. => "entryStore" | .range .. => "range" | .next .. => "next" | .entry _ => "entry" | .typeAssert .. => "typeAssert" | .extract .. => "extract"
  | .call _ => "call"
  | .go _ => "go" | .defer _ => "defer" | .panic _ => "panic" | .send .. => "send" | .recv .. => "recv" | .select .. => "select"

/-! ### an operation, worked out as far as it can be ahead of the run -/

abbrev Call := FuncId → List AV → St → R (AV × St)

inductive OB where
  /-- hangs on the operands alone -/
  | p (f : T → Option AV)
  /-- reads -/
  | q (f : T → St → Option AV)
  /-- makes a block -/
  | n (f : T → New)
  | w (f : T → St → Option (AV × St))
  | c (f : Call → T → St → R (AV × St))
  | bad (s : String)

def operB : Operand → Bx (T → AV)
  | .tmp i => getT i
  | .const v => ⟨fun _ => ofV v⟩
  | .func f => ⟨fun _ => .oth (.fn f [] [])⟩
  | .global _ => ⟨fun _ => .any⟩

def opersB : List Operand → Bx (T → List AV)
  | [] => ⟨fun _ => []⟩
  | x :: l => (operB x).use fun f => (opersB l).use fun g => ⟨fun t => f t :: g t⟩
def partsB : List (Nat × Operand) → Bx (T → List (Nat × AV))
  | [] => ⟨fun _ => []⟩
  | (i, x) :: l => (operB x).use fun f => (partsB l).use fun g => ⟨fun t => (i, f t) :: g t⟩
def operOB : Option Operand → Bx (T → Option AV)
  | none => ⟨fun _ => none⟩
  | some x => (operB x).use fun f => ⟨fun t => some (f t)⟩
/-- Operands that are addresses. -/
def ptrsB : List Operand → Bx (T → Option (List (Nat × Nat)))
  | [] => ⟨fun _ => some []⟩
  | x :: l => (operB x).use fun f => (ptrsB l).use fun g => ⟨fun t => (f t).onP (fun b o => onSome (g t) (fun l => some ((b, o) :: l)) none) none⟩

def pair64 (s : Nat) : AV := .t [.c (.i .u64 (.ofNat (Nat.mod s 18446744073709551616))), .c (.i .u64 (.ofNat (Nat.div s 18446744073709551616)))]

def rawSy (k : IntKind) (c : Int) (l : List (Nat × Int)) : Cell := match l with
  | [] => .i k c
  | l => .o (.sy k c l)
def add64S (σ : St) (x y c : AV) : Option (AV × St) := x.onL (fun _ cx l => y.onL (fun _ cy m => c.onN (fun e => ifb (Nat.ble e 1)
  (onSome (mkSy' (factsOf σ) .u64 cx l) (fun _ => onSome (mkSy' (factsOf σ) .u64 cy m) (fun _ => match Int.add (Int.add cx cy) (.ofNat e), addL l m with
    | T, lm => onSome (decLe (factsOf σ) (Int.sub 18446744073709551616 T) (negL lm)) (fun b => some (.t [.c (rawSy .u64 (ifb b (Int.sub T 18446744073709551616) T) lm), .c (.i .u64 (ifb b 1 0))], σ)) none) none) none) none) none) none) none
def extA : Ext → Bx (St → List AV → Option (AV × St))
  | .add64 => ⟨fun σ args => match args with
    | [x, y, c] => onSome (x.onN (fun x => y.onN (fun y => c.onN (fun c => ifb (Nat.ble c 1) (some (pair64 (Nat.add (Nat.add x y) c), σ)) none) none) none) none) (fun r => some r) (add64S σ x y c)
    | _ => none⟩
  | .mapsClone => ⟨fun σ args => match args with
    | [x] => x.onO (fun x => match x with
      | .ifc t b => (hget σ b).onMap (fun es c => newBlk σ (.map es c) fun b => AV.oth (.ifc t b)) none
      | _ => none) none
    | _ => none⟩

def ptrV (p : Nat × Nat) : AV := .ptr p.1 p.2

def unitS (r : Option St) : Option (AV × St) := onSome r (fun σ => some (.t [], σ)) none
def noNil (v : AV) : Option AV := AV.casesOn v (fun x => Cell.casesOn x (fun _ _ => some v) (fun _ _ => some v) (fun _ => some v) (fun _ => some v)
  (fun x => Oth.casesOn x none none (fun _ _ _ _ _ => some v) (some v) (some v) (fun _ => some v) (some v) (fun _ _ _ => some v) none (fun _ _ => some v) none (fun _ _ _ => none) (fun _ => none) (fun _ _ _ => none) (fun _ _ => none))) (fun _ => some v) (fun _ => some v)

def opB0 (P : Program) (Γ : Tab) (o : Oper) : OB :=
  match o.op with
  | .move x | .assign x => (operB x).use fun z0 => .p fun t => some (z0 t)
  | .pick c a b => (operB c).use fun z0 => (operB a).use fun z1 => (operB b).use fun z2 => .q fun t σ => (z0 t).onB (fun c => ifb c (some (z1 t)) (some (z2 t))) (onSome (decSb (factsOf σ) (z0 t)) (fun c => ifb c (some (z1 t)) (some (z2 t))) none)
  | .build t parts => (buildB Γ t).use fun z0 => (partsB parts.toList).use fun z1 => .p fun τ => z0 (z1 τ)
  | .load t a => (loadB Γ t).use fun z0 => (operB a).use fun z1 => .q fun τ σ => z0 σ (z1 τ)
  | .nilCheck x => (operB x).use fun z0 => .p fun τ => noNil (z0 τ)
  | .binOp op t x y _ => (binB P Γ op t).use fun z0 => (operB x).use fun z1 => (operB y).use fun z2 => .q fun τ σ => z0 σ (z1 τ) (z2 τ)
  | .unOp op _ x => (unB op).use fun z0 => (unS op).use fun z2 => (operB x).use fun z1 => .q fun τ σ => onSome (z0 (z1 τ)) (fun v => some v) (z2 σ (z1 τ))
  | .convert s d x => (convB Γ s d).use fun z0 => (operB x).use fun z1 => .q fun τ σ => z0 σ (z1 τ)
  | .makeInterface t x => match Γ.und t with
    | some (.map _ _) => (operB x).use fun z0 => .p fun τ => onMapV (z0 τ) (fun b => some (.oth (.ifc t b))) none
    | _ => .bad "makeInterface"
  | .makeFunc (.func f) first captured => (ptrsB first.toList).use fun z0 => (ptrsB captured.toList).use fun z1 => .p fun τ => onSome (z0 τ) (fun a => onSome (z1 τ) (fun b => some (.oth (.fn f a b))) none) none
  | .slice t x lo hi mx => (sliceB Γ t).use fun z0 => (operB x).use fun z1 => (operOB lo).use fun z2 => (operOB hi).use fun z3 => (operOB mx).use fun z4 => .p fun τ => z0 (z1 τ) (z2 τ) (z3 τ) (z4 τ)
  | .fieldAddr t x f => (fieldAddrB Γ t f).use fun z0 => (operB x).use fun z1 => .p fun τ => z0 (z1 τ)
  | .field t x f => (fieldB Γ t f).use fun z0 => (operB x).use fun z1 => .p fun τ => z0 (z1 τ)
  | .indexAddr t x i => (indexAddrB Γ t).use fun z0 => (operB x).use fun z1 => (operB i).use fun z2 => .p fun τ => z0 (z1 τ) (z2 τ)
  | .index t x i => (indexB Γ t).use fun z0 => (operB x).use fun z1 => (operB i).use fun z2 => .p fun τ => z0 (z1 τ) (z2 τ)
  | .lookup t x i ok => (lookupB P Γ t ok).use fun z0 => (operB x).use fun z1 => (operB i).use fun z2 => .q fun τ σ => z0 σ (z1 τ) (z2 τ)
  | .entry x => (operB x).use fun z0 => .q fun τ σ => entryA σ (z0 τ)
  | .typeAssert x _ t ok => match Γ.und t with
    | some (.map _ _) => (operB x).use fun z0 => .p fun τ => (z0 τ).onO (fun x => match x with
      | .ifc u b => ifb (Nat.beq u t) (ifb ok (some (.t [.c (.o (.map b)), .c (.b true)])) (some (mapV b))) none
      | _ => none) none
    | _ => .bad "typeAssert"
  | .extract x i => (operB x).use fun z0 => .p fun τ => (z0 τ).onT (fun l => onSome (nth i l) (fun x => some (ofTV x)) none) none
  | .alloc e => match Γ.zcells e with
    | some z => .n fun _ => some (.cells e z [] false, ptr0)
    | none => .bad "alloc"
  | .box e x => (operB x).use fun z0 => .n fun τ => onSome (z0 τ).cells (fun cs => some (.cells e cs [] false, ptr0)) none
  | .buildSlice t len parts => (buildSliceB Γ t len).use fun z0 => (partsB parts.toList).use fun z1 => .n fun τ => z0 (z1 τ)
  | .makeMap _ none => .n fun _ => some (.map [] 0, mapV)
  | .makeMap t (some r) => match Γ.und t with
    | some (.map _ _) => (operB r).use fun z0 => .n fun τ => (z0 τ).onI (fun _ _ => some (.map [] 0, mapV)) none
    | _ => .bad "makeMap"
  | .makeSlice t l c => (makeSliceB Γ t).use fun z0 => (operB l).use fun z1 => (operB c).use fun z2 => .n fun τ => z0 (z1 τ) (z2 τ)
  | .store t a x => (storeB Γ t).use fun z0 => (operB a).use fun z1 => (operB x).use fun z2 => .w fun τ σ => unitS (z0 σ (z1 τ) (z2 τ))
  | .mapUpdate t m k x | .insert t m k x => (mapUpdateB P Γ t).use fun z0 => (operB m).use fun z1 => (operB k).use fun z2 => (operB x).use fun z3 => .w fun τ σ => unitS (z0 σ (z1 τ) (z2 τ) (z3 τ))
  | .mapEntry t m k => (mapEntryB P Γ t).use fun z0 => (operB m).use fun z1 => (operB k).use fun z2 => .w fun τ σ => z0 σ (z1 τ) (z2 τ)
  | .entryStore _ m s x => (operB m).use fun z0 => (operB s).use fun z1 => (operB x).use fun z2 => .w fun τ σ => unitS (entryStoreA σ (z0 τ) (z1 τ) (z2 τ))
  | .range t x => (rangeB Γ t).use fun z0 => (operB x).use fun z1 => .w fun τ σ => z0 σ (z1 τ)
  | .next it false => (operB it).use fun z0 => .c fun _ τ σ => nextA σ (z0 τ)
  | .call { callee := .builtin b, args, argTypes } =>
    match b, args.toList, argTypes.toList with
    | .len, [x], [t] => (lenB Γ t).use fun z0 => (operB x).use fun z1 => .q fun τ σ => z0 σ (z1 τ)
    | .cap, [x], [t] => match Γ.und t with
      | some (.slice _) => (operB x).use fun z0 => .p fun τ => (z0 τ).onO (fun x => match x with
        | .slc _ _ _ c ex => ifb (Nat.beq ex 0) (some (len64 c)) none
        | .nils => some (len64 0)
        | _ => none) none
      | _ => .bad "cap"
    | .max, x :: l, _ => (operB x).use fun z0 => (opersB l).use fun z1 => .q fun τ σ => minmax (factsOf σ) true (z0 τ) (z1 τ)
    | .min, x :: l, _ => (operB x).use fun z0 => (opersB l).use fun z1 => .q fun τ σ => minmax (factsOf σ) false (z0 τ) (z1 τ)
    | .append, [s, x], [t, u] => (appendB Γ t u).use fun z0 => (operB s).use fun z1 => (operB x).use fun z2 => .w fun τ σ => z0 σ (z1 τ) (z2 τ)
    | .copy, [d, s], [t, _] => (copyB Γ t).use fun z0 => (operB d).use fun z1 => (operB s).use fun z2 => .w fun τ σ => z0 σ (z1 τ) (z2 τ)
    | .clear, [x], [t] => (clearB Γ t).use fun z0 => (operB x).use fun z1 => .w fun τ σ => unitS (z0 σ (z1 τ))
    | .delete, [m, k], [t, _] => (deleteB P Γ t).use fun z0 => (operB m).use fun z1 => (operB k).use fun z2 => .w fun τ σ => unitS (z0 σ (z1 τ) (z2 τ))
    | .unsafeString, [p, n], [pt, _] => (unsafeStrB Γ pt).use fun z0 => (operB p).use fun z1 => (operB n).use fun z2 => .w fun τ σ => z0 σ (z1 τ) (z2 τ)
    | _, _, _ => .bad "builtin"
  | .call { callee := .value (.func f), args, .. } => match Γ.ext f with
    | some e => (extA e).use fun x => (opersB args.toList).use fun z0 => .w fun τ σ => x σ (z0 τ)
    | none => (opersB args.toList).use fun z0 => .c fun call τ σ => call f (z0 τ) σ
  | .call { callee := .value f, args, .. } => (operB f).use fun z0 => .c fun call τ σ => (z0 τ).onO (fun x => match x with
    | .fn f first captured => call f (first.map ptrV ++ (opersB args.toList).run τ ++ captured.map ptrV) σ
    | _ => .err "call of no function") (.err "call of no function")
  | op => .bad (opName op)


/-! the same, an operation's part at a time: what the kernel works out -/
def oMove (x : Operand) : OB := (operB x).use fun z0 => .p fun t => some (z0 t)
def oPick (c a b : Operand) : OB := (operB c).use fun z0 => (operB a).use fun z1 => (operB b).use fun z2 => .q fun t σ => (z0 t).onB (fun c => ifb c (some (z1 t)) (some (z2 t))) (onSome (decSb (factsOf σ) (z0 t)) (fun c => ifb c (some (z1 t)) (some (z2 t))) none)
def oBuild (Γ : Tab) (t : TypeId) (parts : Array (Nat × Operand)) : OB := (buildB Γ t).use fun z0 => (partsB parts.toList).use fun z1 => .p fun τ => z0 (z1 τ)
def oLoad (Γ : Tab) (t : TypeId) (a : Operand) : OB := (loadB Γ t).use fun z0 => (operB a).use fun z1 => .q fun τ σ => z0 σ (z1 τ)
def oNil (x : Operand) : OB := (operB x).use fun z0 => .p fun τ => noNil (z0 τ)
def oBin (P : Program) (Γ : Tab) (op : BinOp) (t : TypeId) (x y : Operand) : OB := (binB P Γ op t).use fun z0 => (operB x).use fun z1 => (operB y).use fun z2 => .q fun τ σ => z0 σ (z1 τ) (z2 τ)
def oUn (op : UnOp) (x : Operand) : OB := (unB op).use fun z0 => (unS op).use fun z2 => (operB x).use fun z1 => .q fun τ σ => onSome (z0 (z1 τ)) (fun v => some v) (z2 σ (z1 τ))
def oConv (Γ : Tab) (s d : TypeId) (x : Operand) : OB := (convB Γ s d).use fun z0 => (operB x).use fun z1 => .q fun τ σ => z0 σ (z1 τ)
def oIface (Γ : Tab) (t : TypeId) (x : Operand) : OB := match Γ.und t with
    | some (.map _ _) => (operB x).use fun z0 => .p fun τ => onMapV (z0 τ) (fun b => some (.oth (.ifc t b))) none
    | _ => .bad "makeInterface"
def oFn (f : FuncId) (first captured : Array Operand) : OB := (ptrsB first.toList).use fun z0 => (ptrsB captured.toList).use fun z1 => .p fun τ => onSome (z0 τ) (fun a => onSome (z1 τ) (fun b => some (.oth (.fn f a b))) none) none
def oSlice (Γ : Tab) (t : TypeId) (x : Operand) (lo hi mx : Option Operand) : OB := (sliceB Γ t).use fun z0 => (operB x).use fun z1 => (operOB lo).use fun z2 => (operOB hi).use fun z3 => (operOB mx).use fun z4 => .p fun τ => z0 (z1 τ) (z2 τ) (z3 τ) (z4 τ)
def oFieldAddr (Γ : Tab) (t : TypeId) (x : Operand) (f : Nat) : OB := (fieldAddrB Γ t f).use fun z0 => (operB x).use fun z1 => .p fun τ => z0 (z1 τ)
def oField (Γ : Tab) (t : TypeId) (x : Operand) (f : Nat) : OB := (fieldB Γ t f).use fun z0 => (operB x).use fun z1 => .p fun τ => z0 (z1 τ)
def oIndexAddr (Γ : Tab) (t : TypeId) (x i : Operand) : OB := (indexAddrB Γ t).use fun z0 => (operB x).use fun z1 => (operB i).use fun z2 => .p fun τ => z0 (z1 τ) (z2 τ)
def oIndex (Γ : Tab) (t : TypeId) (x i : Operand) : OB := (indexB Γ t).use fun z0 => (operB x).use fun z1 => (operB i).use fun z2 => .p fun τ => z0 (z1 τ) (z2 τ)
def oLookup (P : Program) (Γ : Tab) (t : TypeId) (x i : Operand) (ok : Bool) : OB := (lookupB P Γ t ok).use fun z0 => (operB x).use fun z1 => (operB i).use fun z2 => .q fun τ σ => z0 σ (z1 τ) (z2 τ)
def oEntry (x : Operand) : OB := (operB x).use fun z0 => .q fun τ σ => entryA σ (z0 τ)
def oAssert (Γ : Tab) (x : Operand) (t : TypeId) (ok : Bool) : OB := match Γ.und t with
    | some (.map _ _) => (operB x).use fun z0 => .p fun τ => (z0 τ).onO (fun x => match x with
      | .ifc u b => ifb (Nat.beq u t) (ifb ok (some (.t [.c (.o (.map b)), .c (.b true)])) (some (mapV b))) none
      | _ => none) none
    | _ => .bad "typeAssert"
def oExtract (x : Operand) (i : Nat) : OB := (operB x).use fun z0 => .p fun τ => (z0 τ).onT (fun l => onSome (nth i l) (fun x => some (ofTV x)) none) none
def oAlloc (Γ : Tab) (e : TypeId) : OB := match Γ.zcells e with
    | some z => .n fun _ => some (.cells e z [] false, ptr0)
    | none => .bad "alloc"
def oBox (e : TypeId) (x : Operand) : OB := (operB x).use fun z0 => .n fun τ => onSome (z0 τ).cells (fun cs => some (.cells e cs [] false, ptr0)) none
def oBuildSlice (Γ : Tab) (t : TypeId) (len : Nat) (parts : Array (Nat × Operand)) : OB := (buildSliceB Γ t len).use fun z0 => (partsB parts.toList).use fun z1 => .n fun τ => z0 (z1 τ)
def oMakeMap (Γ : Tab) (t : TypeId) (r : Option Operand) : OB := match r with
  | none => .n fun _ => some (.map [] 0, mapV)
  | some r => match Γ.und t with
    | some (.map _ _) => (operB r).use fun z0 => .n fun τ => (z0 τ).onI (fun _ _ => some (.map [] 0, mapV)) none
    | _ => .bad "makeMap"
def oMakeSlice (Γ : Tab) (t : TypeId) (l c : Operand) : OB := (makeSliceB Γ t).use fun z0 => (operB l).use fun z1 => (operB c).use fun z2 => .n fun τ => z0 (z1 τ) (z2 τ)
def oStore (Γ : Tab) (t : TypeId) (a x : Operand) : OB := (storeB Γ t).use fun z0 => (operB a).use fun z1 => (operB x).use fun z2 => .w fun τ σ => unitS (z0 σ (z1 τ) (z2 τ))
def oMapUpdate (P : Program) (Γ : Tab) (t : TypeId) (m k x : Operand) : OB := (mapUpdateB P Γ t).use fun z0 => (operB m).use fun z1 => (operB k).use fun z2 => (operB x).use fun z3 => .w fun τ σ => unitS (z0 σ (z1 τ) (z2 τ) (z3 τ))
def oMapEntry (P : Program) (Γ : Tab) (t : TypeId) (m k : Operand) : OB := (mapEntryB P Γ t).use fun z0 => (operB m).use fun z1 => (operB k).use fun z2 => .w fun τ σ => z0 σ (z1 τ) (z2 τ)
def oEntryStore (m s x : Operand) : OB := (operB m).use fun z0 => (operB s).use fun z1 => (operB x).use fun z2 => .w fun τ σ => unitS (entryStoreA σ (z0 τ) (z1 τ) (z2 τ))
def oRange (Γ : Tab) (t : TypeId) (x : Operand) : OB := (rangeB Γ t).use fun z0 => (operB x).use fun z1 => .w fun τ σ => z0 σ (z1 τ)
def oNext (it : Operand) (str : Bool) : OB := match str with
  | false => (operB it).use fun z0 => .c fun _ τ σ => nextA σ (z0 τ)
  | true => .bad "next"
def oLen (Γ : Tab) (t : TypeId) (x : Operand) : OB := (lenB Γ t).use fun z0 => (operB x).use fun z1 => .q fun τ σ => z0 σ (z1 τ)
def oCap (Γ : Tab) (t : TypeId) (x : Operand) : OB := match Γ.und t with
      | some (.slice _) => (operB x).use fun z0 => .p fun τ => (z0 τ).onO (fun x => match x with
        | .slc _ _ _ c ex => ifb (Nat.beq ex 0) (some (len64 c)) none
        | .nils => some (len64 0)
        | _ => none) none
      | _ => .bad "cap"
def oMax (mx : Bool) (x : Operand) (l : List Operand) : OB := (operB x).use fun z0 => (opersB l).use fun z1 => .q fun τ σ => minmax (factsOf σ) mx (z0 τ) (z1 τ)
def oAppend (Γ : Tab) (t u : TypeId) (s x : Operand) : OB := (appendB Γ t u).use fun z0 => (operB s).use fun z1 => (operB x).use fun z2 => .w fun τ σ => z0 σ (z1 τ) (z2 τ)
def oCopy (Γ : Tab) (t : TypeId) (d s : Operand) : OB := (copyB Γ t).use fun z0 => (operB d).use fun z1 => (operB s).use fun z2 => .w fun τ σ => z0 σ (z1 τ) (z2 τ)
def oClear (Γ : Tab) (t : TypeId) (x : Operand) : OB := (clearB Γ t).use fun z0 => (operB x).use fun z1 => .w fun τ σ => unitS (z0 σ (z1 τ))
def oDelete (P : Program) (Γ : Tab) (t : TypeId) (m k : Operand) : OB := (deleteB P Γ t).use fun z0 => (operB m).use fun z1 => (operB k).use fun z2 => .w fun τ σ => unitS (z0 σ (z1 τ) (z2 τ))
def oUnsafeStr (Γ : Tab) (pt : TypeId) (p n : Operand) : OB := (unsafeStrB Γ pt).use fun z0 => (operB p).use fun z1 => (operB n).use fun z2 => .w fun τ σ => z0 σ (z1 τ) (z2 τ)
def oBuiltin (P : Program) (Γ : Tab) (b : Builtin) (args : List Operand) (ts : List TypeId) : OB :=
    match b, args, ts with
    | .len, [x], [t] => oLen Γ t x
    | .cap, [x], [t] => oCap Γ t x
    | .max, x :: l, _ => oMax true x l
    | .min, x :: l, _ => oMax false x l
    | .append, [s, x], [t, u] => oAppend Γ t u s x
    | .copy, [d, s], [t, _] => oCopy Γ t d s
    | .clear, [x], [t] => oClear Γ t x
    | .delete, [m, k], [t, _] => oDelete P Γ t m k
    | .unsafeString, [p, n], [pt, _] => oUnsafeStr Γ pt p n
    | _, _, _ => .bad "builtin"
def oCallF (Γ : Tab) (f : FuncId) (args : List Operand) : OB := match Γ.ext f with
    | some e => (extA e).use fun x => (opersB args).use fun z0 => .w fun τ σ => x σ (z0 τ)
    | none => (opersB args).use fun z0 => .c fun call τ σ => call f (z0 τ) σ
def oCallV (f : Operand) (args : List Operand) : OB := (operB f).use fun z0 => .c fun call τ σ => (z0 τ).onO (fun x => match x with
    | .fn f first captured => call f (first.map ptrV ++ (opersB args).run τ ++ captured.map ptrV) σ
    | _ => .err "call of no function") (.err "call of no function")
def oCallee (Γ : Tab) (f : Operand) (args : List Operand) : OB := match f with
  | .func f => oCallF Γ f args
  | f => oCallV f args
def oCall (P : Program) (Γ : Tab) (c : Go.Call) : OB := match c.callee with
  | .builtin b => oBuiltin P Γ b c.args.toList c.argTypes.toList
  | .value f => oCallee Γ f c.args.toList
  | _ => .bad "call"

def opB (P : Program) (Γ : Tab) (o : Oper) : OB :=
  match o.op with
  | .move x => oMove x
  | .assign x => oMove x
  | .pick c a b => oPick c a b
  | .build t parts => oBuild Γ t parts
  | .load t a => oLoad Γ t a
  | .nilCheck x => oNil x
  | .binOp op t x y _ => oBin P Γ op t x y
  | .unOp op _ x => oUn op x
  | .convert s d x => oConv Γ s d x
  | .makeInterface t x => oIface Γ t x
  | .makeFunc (.func f) first captured => oFn f first captured
  | .slice t x lo hi mx => oSlice Γ t x lo hi mx
  | .fieldAddr t x f => oFieldAddr Γ t x f
  | .field t x f => oField Γ t x f
  | .indexAddr t x i => oIndexAddr Γ t x i
  | .index t x i => oIndex Γ t x i
  | .lookup t x i ok => oLookup P Γ t x i ok
  | .entry x => oEntry x
  | .typeAssert x _ t ok => oAssert Γ x t ok
  | .extract x i => oExtract x i
  | .alloc e => oAlloc Γ e
  | .box e x => oBox e x
  | .buildSlice t len parts => oBuildSlice Γ t len parts
  | .makeMap t r => oMakeMap Γ t r
  | .makeSlice t l c => oMakeSlice Γ t l c
  | .store t a x => oStore Γ t a x
  | .mapUpdate t m k x => oMapUpdate P Γ t m k x
  | .insert t m k x => oMapUpdate P Γ t m k x
  | .mapEntry t m k => oMapEntry P Γ t m k
  | .entryStore _ m s x => oEntryStore m s x
  | .range t x => oRange Γ t x
  | .next it str => oNext it str
  | .call c => oCall P Γ c
  | op => .bad (opName op)

theorem opB_eq (P : Program) (Γ : Tab) (o : Oper) : opB P Γ o = opB0 P Γ o := by
  obtain ⟨dst, op, type, pos, after, guard⟩ := o
  cases op <;> try rfl
  case makeFunc f first captured => cases f <;> rfl
  case makeMap t r => cases r <;> rfl
  case next it str => cases str <;> rfl
  case call c =>
    obtain ⟨callee, args, argTypes⟩ := c
    cases callee with
    | builtin b => rfl
    | value f => cases f <;> rfl
    | invoke a b => rfl

def OB.quiet : OB → Option (T → St → Option AV)
  | .p f => some fun t _ => f t
  | .q f => some f
  | _ => none

/-! ### the run -/

inductive X where
  | nm | ex (id : Nat) | rt

structure TS where
  t : T
  σ : St

structure Out where
  x : X
  t : T
  σ : St

/-- What is laid into a slot, if there is that slot among n. -/
def putB (n : Nat) : Option Tmp → Bx (AV → T → T)
  | none => ⟨fun _ t => t⟩
  | some d => match Nat.blt d n with
    | true => putT d
    | false => ⟨fun _ t => t⟩

/-- Is a fact of no use beside that one? -/
def weaker (c : Int) (l : List (Nat × Int)) : Fact → Bool
  | .le d m => ifb (sameLin l m) (!(ltI c d)) false
  | _ => false
def strip (c : Int) (l : List (Nat × Int)) : List Fact → List Fact
  | [] => []
  | f :: F => ifb (weaker c l f) (strip c l F) (f :: strip c l F)
def layF : List Fact → List Fact → List Fact
  | [], F => F
  | .le c l :: G, F => .le c l :: layF G (strip c l F)
  | f :: G, F => f :: layF G F
/-- Facts more. -/
def addF {α : Type} (σ : St) (l : List Fact) (k : St → R α) : R α := ABlk.casesOn (hget σ 0) (.err "facts") (fun _ _ _ _ => .err "facts") (fun _ _ => .err "facts") (fun _ _ _ _ => .err "facts")
  (fun F => St.casesOn σ fun h n d => k ⟨hput h 0 (.facts (layF l F)), n, d⟩) (fun _ => .err "facts")
/-- Not nought: below it or above it. -/
def forkNe {α : Type} (σ : St) (c : Int) (l : List (Nat × Int)) (k : St → R α) : R α :=
  ifb (provesLe (factsOf σ) (Int.neg c) (negL l)) (addF σ [.le (Int.sub 1 c) (negL l)] k)
    (ifb (provesLe (factsOf σ) c l) (addF σ [.le (Int.add c 1) l] k)
      (R.app (addF σ [.le (Int.add c 1) l] k) (addF σ [.le (Int.sub 1 c) (negL l)] k)))
/-- Both ways, where a truth is unknown. -/
def forkB {α : Type} (σ : St) (v : AV) (s : String) (k : Bool → St → R α) : R α := v.onO (fun x => match x with
    | .sb m c l => match m with
      | 0 => onSome (decLe (factsOf σ) c l) (fun b => k b σ) (R.app (addF σ [.le c l] (k true)) (addF σ [.le (Int.sub 1 c) (negL l)] (k false)))
      | 1 => onSome (decEq (factsOf σ) c l) (fun b => k b σ)
        (R.app (addF σ [.le c l, .le (Int.neg c) (negL l)] (k true)) (forkNe σ c l (k false)))
      | _ => onSome (decEq (factsOf σ) c l) (fun b => k (!b) σ)
        (R.app (addF σ [.le c l, .le (Int.neg c) (negL l)] (k false)) (forkNe σ c l (k true)))
    | _ => .err s) (.err s)

abbrev OpsB := Bx (Call → T → St → R TS)

def sumOf (v w : AV) (k : Int → List (Nat × Int) → Int → List (Nat × Int) → Option (Int × List (Nat × Int))) : Option (Int × List (Nat × Int)) :=
  v.onL (fun _ c l => w.onL (fun _ d m => match l, m with
    | [], [] => none
    | l, m => k c l d m) none) none
/-- What is to be settled ahead of an operation: is that at most nought? -/
def forkOf (Γ : Tab) (o : Oper) : Option (Bx (T → Option (Int × List (Nat × Int)))) := match o.op with
  | .binOp .shr _ x (.const (.int _ 63)) _ => some ((operB x).use fun f => ⟨fun t => (f t).onO (fun x => match x with
      | .sy _ c l => some (Int.add c 1, l)
      | _ => none) none⟩)
  | .call { callee := .builtin .max, args, .. } => match args.toList with
    | [x, y] => some ((operB x).use fun f => (operB y).use fun g => ⟨fun t => sumOf (f t) (g t) fun c l d m => some (Int.sub c d, addL l (negL m))⟩)
    | _ => none
  | .call { callee := .builtin .min, args, .. } => match args.toList with
    | [x, y] => some ((operB x).use fun f => (operB y).use fun g => ⟨fun t => sumOf (f t) (g t) fun c l d m => some (Int.sub c d, addL l (negL m))⟩)
    | _ => none
  | .call { callee := .value (.func f), args, .. } => match Γ.ext f with
    | some .add64 => match args.toList with
      | [x, y, z] => some ((operB x).use fun f => (operB y).use fun g => (operB z).use fun h => ⟨fun t => (h t).onN (fun e => sumOf (f t) (g t) fun c l d m => some (Int.sub 18446744073709551616 (Int.add (Int.add c d) (.ofNat e)), negL (addL l m))) none⟩)
      | _ => none
    | _ => none
  | _ => none
/-- One operation, and what is behind it. -/
def op1B0 (P : Program) (Γ : Tab) (n : Nat) (o : Oper) (k : OpsB) : OpsB :=
  match opB P Γ o with
  | .p f => (putB n o.dst).use fun p => ⟨fun call t σ => onSome (f t) (fun v => k.run call (p v t) σ) (.err o.pos)⟩
  | .q f => (putB n o.dst).use fun p => ⟨fun call t σ => onSome (f t σ) (fun v => k.run call (p v t) σ) (.err o.pos)⟩
  | .n f => (putB n o.dst).use fun p => ⟨fun call t σ => onSome (f t) (fun x => onSome (newBlk σ x.1 x.2) (fun r => Prod.casesOn r fun v σ => k.run call (p v t) σ) (.err "room")) (.err o.pos)⟩
  | .w f => (putB n o.dst).use fun p => ⟨fun call t σ => onSome (f t σ) (fun r => Prod.casesOn r fun v σ => k.run call (p v t) σ) (.err o.pos)⟩
  | .c f => (putB n o.dst).use fun p => ⟨fun call t σ => R.bind (f call t σ) fun r => Prod.casesOn r fun v σ => k.run call (p v t) σ⟩
  | .bad s => ⟨fun _ _ _ => .err s⟩

def op1B (P : Program) (Γ : Tab) (n : Nat) (o : Oper) (k : OpsB) : OpsB := match forkOf Γ o with
  | none => op1B0 P Γ n o k
  | some g => g.use fun g => (op1B0 P Γ n o k).use fun r => ⟨fun call t σ => onSome (g t) (fun e => forkB σ (.oth (.sb 0 e.1 e.2)) "fork" fun _ σ => r call t σ) (r call t σ)⟩

/-- Operations, one behind the other. -/
def opsB (P : Program) (Γ : Tab) (n : Nat) (ops : List Oper) : List Oper → OpsB
  | [] => ⟨fun _ t σ => .one ⟨t, σ⟩⟩
  | o :: l => match o.guard with
    | none => op1B P Γ n o (opsB P Γ n ops l)
    | some (j, want) => match nth j ops with
      | some g => match g.dst with
        | some d => (getT d).use fun g => (putB n o.dst).use fun p => ⟨fun call t σ => AV.casesOn (g t)
            (fun x => (AV.c x).onB (fun b => ifb (ifb want b (!b)) ((op1B P Γ n o (opsB P Γ n ops l)).run call t σ) ((opsB P Γ n ops l).run call (p (.t []) t) σ))
              (forkB σ (AV.c x) "guard" fun b σ => ifb (ifb want b (!b)) ((op1B P Γ n o (opsB P Γ n ops l)).run call t σ) ((opsB P Γ n ops l).run call (p (.t []) t) σ)))
            (fun _ => .err "guard")
            (fun _ => (opsB P Γ n ops l).run call (p (.t []) t) σ)⟩
        | none => ⟨fun _ _ _ => .err "guard"⟩
      | none => ⟨fun _ _ _ => .err "guard"⟩

/-! ### operations in whatever order -/
/-- What an operation waits for. -/
def depsOf (o : Oper) : List Nat := o.after.toList.filterMap fun e => match Region.binds .any e with
  | true => some e.on
  | false => none

/-- Masks: the bits of all that is ahead. -/
def orMasks (A : List Nat) : List Nat → Option Nat
  | [] => some 0
  | d :: l => match nth d A with
    | some m => match orMasks A l with
      | some r => some (Nat.lor (Nat.lor m (Nat.shiftLeft 1 d)) r)
      | none => none
    | none => none
def masks : List Oper → List Nat → Option (List Nat)
  | [], A => some A
  | o :: l, A => match orMasks A (depsOf o) with
    | some m => masks l (A ++ [m])
    | none => none
def bitAt (A : List Nat) (k c : Nat) : Bool := match nth k A with
  | some m => Nat.testBit m c
  | none => false

def looksN (ops : List Oper) (o : Oper) : List Nat :=
  (o.op.operands.toList.filterMap fun | .tmp t => some t | _ => none) ++
  (match o.guard with
   | some (g, _) => match nth g ops with
     | some x => x.dst.toList
     | none => []
   | none => [])

/-- Two operations of which the second's slot is one that the first looks at or writes: one is ahead of the other. -/
def pairOk (A : List Nat) (i : Nat) (li : List Nat) (di : Option Tmp) (k : Nat) (dk : Option Tmp) : Bool :=
  match dk with
  | none => true
  | some d => ifb (ifb (has d li) true (match di with
      | some x => Nat.beq x d
      | none => false)) (ifb (Nat.beq i k) true (ifb (bitAt A i k) true (bitAt A k i))) true
def pairsK (A : List Nat) (i : Nat) (li : List Nat) (di : Option Tmp) : List Oper → Nat → Bool
  | [], _ => true
  | o :: l, k => ifb (pairOk A i li di k o.dst) (pairsK A i li di l (Nat.succ k)) false
def pairsI (A : List Nat) (ops : List Oper) : List Oper → Nat → Bool
  | [], _ => true
  | o :: l, i => ifb (pairsK A i (looksN ops o) o.dst ops 0) (pairsI A ops l (Nat.succ i)) false

def OB.heavy : OB → Bool
  | .w _ => true
  | .c _ => true
  | .bad _ => true
  | _ => false

/-- An order: what is light as early as can be. -/
def firstReady (ops : List Oper) (heavy : List Bool) (want : Bool) (done : List Nat) : List Oper → List Bool → Nat → Option Nat
  | o :: l, h :: hs, i => ifb (ifb (has i done) false (ifb (ifb want h (!h)) ((depsOf o).all fun d => has d done) false)) (some i) (firstReady ops heavy want done l hs (Nat.succ i))
  | _, _, _ => none
def canon (ops : List Oper) (heavy : List Bool) : Nat → List Nat → List Nat
  | 0, _ => []
  | n + 1, done => match firstReady ops heavy false done ops heavy 0 with
    | some i => i :: canon ops heavy n (i :: done)
    | none => match firstReady ops heavy true done ops heavy 0 with
      | some i => i :: canon ops heavy n (i :: done)
      | none => []

def checkC (ops : List Oper) (A : List Nat) (heavy : List Bool) : List Nat → List Nat → Bool
  | C1, [] => (List.range ops.length).all fun i => has i C1
  | C1, c :: C2 => match nth c ops with
    | some o => ifb (has c C1) false (ifb ((depsOf o).all fun d => has d C1) (ifb (match nth c heavy with
        | some false => true
        | _ => C2.all fun k => bitAt A k c) (checkC ops A heavy (C1 ++ [c]) C2) false) false)
    | none => false

structure Pend where
  i : Nat
  g : St → Option AV
  v : AV

def sameO : Oth → Oth → Bool
  | .any, .any => true
  | .nilp, .nilp => true
  | .slc a b c d e, .slc a' b' c' d' e' => ifb (Nat.beq a a') (ifb (Nat.beq b b') (ifb (Nat.beq c c') (ifb (Nat.beq d d') (Nat.beq e e') false) false) false) false
  | .nils, .nils => true
  | .emp, .emp => true
  | .map a, .map b => Nat.beq a b
  | .nilm, .nilm => true
  | .nilf, .nilf => true
  | .ifc a b, .ifc a' b' => ifb (Nat.beq a a') (Nat.beq b b') false
  | .nili, .nili => true
  | .sy k c l, .sy k' c' l' => ifb (eqK k k') (ifb (eqI c c') (sameLin l l') false) false
  | .ss a, .ss a' => Nat.beq a a'
  | .pv a b, .pv a' b' => ifb (Nat.beq a a') (Nat.beq b b') false
  | .sb m c l, .sb m' c' l' => ifb (Nat.beq m m') (ifb (eqI c c') (sameLin l l') false) false
  | _, _ => false
def sameX : Cell → Cell → Bool
  | .i k a, .i j b => ifb (eqK k j) (eqI a b) false
  | .b a, .b b => ifb a b (!b)
  | .s a, .s b => eqNats a b
  | .p a b, .p a' b' => ifb (Nat.beq a a') (Nat.beq b b') false
  | .o a, .o b => sameO a b
  | _, _ => false
def sameXs : List Cell → List Cell → Bool
  | [], [] => true
  | x :: l, y :: m => ifb (sameX x y) (sameXs l m) false
  | _, _ => false
def sameTs : List TV → List TV → Bool
  | [], [] => true
  | .c x :: l, .c y :: m => ifb (sameX x y) (sameTs l m) false
  | .a x :: l, .a y :: m => ifb (sameXs x y) (sameTs l m) false
  | _, _ => false
/-- Is one and the same known of two values? -/
def sameV : AV → AV → Bool
  | .c x, .c y => sameX x y
  | .a x, .a y => sameXs x y
  | .t x, .t y => sameTs x y
  | _, _ => false

/-- Behind a heavy operation: what is read by those that may come behind it is as it was. -/
def finerV (F : List Fact) (v x : AV) : Bool := ifb (sameV v x) true (onSome (decSb F x) (fun b => v.onB (fun c => ifb b c (!c)) false) false)
def recheck (m : Nat) (σ : St) : List Pend → Bool
  | [] => true
  | p :: l => ifb (ifb (Nat.testBit m p.i) true (onSome (p.g σ) (fun v => finerV (factsOf σ) v p.v) false)) (recheck m σ l) false

abbrev DrawB := Bx (Call → T → St → List Pend → R TS)
def draw1B (P : Program) (Γ : Tab) (n : Nat) (i m : Nat) (o : Oper) (k : DrawB) : DrawB :=
  match opB P Γ o with
  | .p f => (putB n o.dst).use fun p => ⟨fun call t σ l => onSome (f t) (fun v => k.run call (p v t) σ l) (.err o.pos)⟩
  | .q f => (putB n o.dst).use fun p => ⟨fun call t σ l => onSome (f t σ) (fun v => k.run call (p v t) σ (⟨i, f t, v⟩ :: l)) (.err o.pos)⟩
  | .n f => (putB n o.dst).use fun p => ⟨fun call t σ l => onSome (f t) (fun x => onSome (newBlk σ x.1 x.2) (fun r => Prod.casesOn r fun v σ => ifb (recheck 0 σ l) (k.run call (p v t) σ l) (.err "order")) (.err "room")) (.err o.pos)⟩
  | .w f => (putB n o.dst).use fun p => ⟨fun call t σ l => onSome (f t σ) (fun r => Prod.casesOn r fun v σ => ifb (recheck m σ l) (k.run call (p v t) σ l) (.err "order")) (.err o.pos)⟩
  | .c f => (putB n o.dst).use fun p => ⟨fun call t σ l => R.bind (f call t σ) fun r => Prod.casesOn r fun v σ => ifb (recheck m σ l) (k.run call (p v t) σ l) (.err "order")⟩
  | .bad s => ⟨fun _ _ _ _ => .err s⟩

def drawB (P : Program) (Γ : Tab) (n : Nat) (ops : List Oper) (A : List Nat) : List Nat → DrawB
  | [] => ⟨fun _ t σ _ => .one ⟨t, σ⟩⟩
  | i :: C => match nth i ops with
    | none => ⟨fun _ _ _ _ => .err "order"⟩
    | some o => match nth i A with
      | none => ⟨fun _ _ _ _ => .err "order"⟩
      | some m => match o.guard with
        | none => draw1B P Γ n i m o (drawB P Γ n ops A C)
        | some (j, want) => match nth j ops with
          | some g => match g.dst with
            | some d => (getT d).use fun g => (putB n o.dst).use fun p => (drawB P Γ n ops A C).use fun k => (draw1B P Γ n i m o (drawB P Γ n ops A C)).use fun k1 => ⟨fun call t σ l => AV.casesOn (g t)
                (fun x => (AV.c x).onB (fun b => ifb (ifb want b (!b)) (k1 call t σ l) (k call (p (.t []) t) σ l))
                  (forkB σ (AV.c x) "guard" fun b σ => ifb (recheck 0 σ l) (ifb (ifb want b (!b)) (k1 call t σ l) (k call (p (.t []) t) σ l)) (.err "order")))
                (fun _ => .err "guard")
                (fun _ => k call (p (.t []) t) σ l)⟩
            | none => ⟨fun _ _ _ _ => .err "guard"⟩
          | none => ⟨fun _ _ _ _ => .err "guard"⟩

/-! the checks of a drawn region, quick: sets of operations as numbers -/
def bitN (m i : Nat) : Bool := Nat.beq (Nat.land (Nat.shiftRight m i) 1) 1
def getM (d : Nat) (t : T) : Nat := AV.onN ((getT d).run t) (fun n => n) 0
def putM (d m : Nat) (t : T) : T := (putT d).run (.int .u64 (.ofNat m)) t
def depM : List Nat → Nat
  | [] => 0
  | d :: l => Nat.lor (Nat.shiftLeft 1 d) (depM l)
def orMasksT (t : T) (i : Nat) : List Nat → Option Nat
  | [] => some 0
  | d :: l => ifb (Nat.blt d i) (onSome (orMasksT t i l) (fun r => some (Nat.lor (Nat.lor (getM d t) (Nat.shiftLeft 1 d)) r)) none) none
def masksT : List Oper → Nat → T → Option (List Nat)
  | [], _, _ => some []
  | o :: l, i, t => ifb (Nat.blt i 576) (onSome (orMasksT t i (depsOf o)) (fun m => onSome (masksT l (Nat.succ i) (putM i m t)) (fun r => some (m :: r)) none) none) none

/-- Who writes a slot. -/
def wrT : List Oper → Nat → T → T
  | [], _, t => t
  | o :: l, k, t => match o.dst with
    | some d => wrT l (Nat.succ k) (putM d (Nat.lor (getM d t) (Nat.shiftLeft 1 k)) t)
    | none => wrT l (Nat.succ k) t
def lookM (t : T) : List Nat → Nat
  | [] => 0
  | d :: l => Nat.lor (getM d t) (lookM t l)
def pairsF (A : List Nat) (ops : List Oper) (t : T) : List Oper → List Nat → Nat → Bool
  | [], _, _ => true
  | _ :: _, [], _ => false
  | o :: l, a :: as, i =>
    ifb (match lookM t (o.dst.toList ++ looksN ops o) with
      | m => ifb (Nat.beq (Nat.land m (Nat.lor a (Nat.shiftLeft 1 i))) m) true (pairsK A i (looksN ops o) o.dst ops 0)) (pairsF A ops t l as (Nat.succ i)) false

structure Ent where
  i : Nat
  dm : Nat
  a : Nat
  heavy : Bool
def ents (P : Program) (Γ : Tab) : List Oper → List Nat → Nat → List Ent
  | o :: l, a :: as, i => ⟨i, depM (depsOf o), a, (opB P Γ o).heavy⟩ :: ents P Γ l as (Nat.succ i)
  | _, _, _ => []
def pickE (want : Bool) (done : Nat) : List Ent → Option Ent
  | [] => none
  | e :: l => ifb (bitN done e.i) (pickE want done l) (ifb (ifb want e.heavy (!e.heavy)) (ifb (Nat.beq (Nat.land e.dm done) e.dm) (some e) (pickE want done l)) (pickE want done l))
def canonE (es : List Ent) : Nat → Nat → List Ent
  | 0, _ => []
  | n + 1, done => onSome (pickE false done es) (fun e => e :: canonE es n (Nat.lor done (Nat.shiftLeft 1 e.i)))
      (onSome (pickE true done es) (fun e => e :: canonE es n (Nat.lor done (Nat.shiftLeft 1 e.i))) [])
def allBits (c : Nat) : List Ent → Bool
  | [] => true
  | e :: l => ifb (bitN e.a c) (allBits c l) false
def checkF (full : Nat) : Nat → List Ent → Bool
  | done, [] => Nat.beq done full
  | done, e :: l => ifb (bitN done e.i) false (ifb (Nat.beq (Nat.land e.dm done) e.dm) (ifb (ifb e.heavy (allBits e.i l) true) (checkF full (Nat.lor done (Nat.shiftLeft 1 e.i)) l) false) false)
def dstsOk (n : Nat) : List Oper → Bool
  | [] => true
  | o :: l => ifb (match o.dst with
    | some d => ifb (Nat.blt d n) (Nat.blt d 576) false
    | none => true) (dstsOk n l) false

def drawnB (P : Program) (Γ : Tab) (n : Nat) (ops : List Oper) : Bx (Call → T → St → R TS) :=
  match masksT ops 0 T.zero with
  | some A => match canonE (ents P Γ ops A 0) ops.length 0 with
    | L => match ifb (dstsOk n ops) (ifb (checkF (Nat.pred (Nat.shiftLeft 1 ops.length)) 0 L) (pairsF A ops (wrT ops 0 T.zero) ops A 0) false) false with
      | true => (drawB P Γ n ops A (L.map Ent.i)).use fun k => ⟨fun call t σ => k call t σ []⟩
      | false => ⟨fun _ _ _ => .err "unordered"⟩
  | none => ⟨fun _ _ _ => .err "edges"⟩

def loopN (body : T → St → R Out) : Nat → T → St → R Out
  | 0 => fun _ _ => .err "loop"
  | n + 1 => fun t σ => R.bind (body t σ) fun o => Out.casesOn o fun x t σ => X.casesOn x (loopN body n t σ) (fun i => .one ⟨.ex i, t, σ⟩) (.one ⟨.rt, t, σ⟩)

/-! ### outcomes that are one -/
/-- Was a block there ahead of the call? -/
def oldN (m b : Nat) : Bool := Nat.blt (Nat.succ b) m
def refsO : Oth → List Nat
  | .slc b _ _ _ _ => [b]
  | .map b => [b]
  | .fn _ xs ys => xs.map (·.1) ++ ys.map (·.1)
  | .ifc _ b => [b]
  | .pv b _ => [b]
  | _ => []
def refsC : Cell → List Nat
  | .p b _ => [b]
  | .o x => refsO x
  | _ => []
def refsCs : List Cell → List Nat
  | [] => []
  | x :: l => refsC x ++ refsCs l
def refsTs : List TV → List Nat
  | [] => []
  | .c x :: l => refsC x ++ refsTs l
  | .a x :: l => refsCs x ++ refsTs l
def refsV : AV → List Nat
  | .c x => refsC x
  | .a l => refsCs l
  | .t l => refsTs l
def refsE : List (AV × AV × Nat) → List Nat
  | [] => []
  | e :: l => refsV e.1 ++ (refsV e.2.1 ++ refsE l)
def anyOld (m : Nat) : List Nat → Bool
  | [] => false
  | b :: l => ifb (oldN m b) true (anyOld m l)

def refsG : List (List Cell) → List Nat
  | [] => []
  | g :: l => refsCs g ++ refsG l
/-- Is a map one that was there ahead, if it is one? -/
def optOld (m : Nat) (x : Option Nat) : Bool := Option.casesOn x true (fun b => oldN m b)
/-- New blocks that are reached. -/
def reach (τ : St) (m : Nat) : Nat → List Nat → List Nat → Option (List Nat)
  | 0, _, _ => none
  | _ + 1, [], S => some S
  | n + 1, b :: todo, S => ifb (ifb (oldN m b) true (has b S)) (reach τ m n todo S)
      (ABlk.casesOn (hget τ b) none
        (fun _ l rel old => ifb (ifb old true (anyOld m rel)) none (reach τ m n (refsCs l ++ todo) (S ++ [b])))
        (fun es _ => reach τ m n (refsE es ++ todo) (S ++ [b]))
        (fun mp _ _ _ => ifb (optOld m mp) (reach τ m n todo (S ++ [b])) none) (fun _ => none) (fun gs => reach τ m n (refsG gs ++ todo) (S ++ [b])))

def idx (b : Nat) : List Nat → Nat → Option Nat
  | [], _ => none
  | c :: l, i => ifb (Nat.beq b c) (some i) (idx b l (Nat.succ i))
/-- A block's new number. -/
def renN (m : Nat) (S : List Nat) (b : Nat) : Option Nat := ifb (oldN m b) (some b) (idx b S (Nat.pred m))

def renPs (r : Nat → Option Nat) : List (Nat × Nat) → Option (List (Nat × Nat))
  | [] => some []
  | p :: l => onSome (r p.1) (fun b => onSome (renPs r l) (fun l => some ((b, p.2) :: l)) none) none
def renO (r : Nat → Option Nat) : Oth → Option Oth
  | .slc b o l c e => onSome (r b) (fun b => some (.slc b o l c e)) none
  | .map b => onSome (r b) (fun b => some (.map b)) none
  | .fn f xs ys => onSome (renPs r xs) (fun xs => onSome (renPs r ys) (fun ys => some (.fn f xs ys)) none) none
  | .ifc t b => onSome (r b) (fun b => some (.ifc t b)) none
  | .pv b j => onSome (r b) (fun b => some (.pv b j)) none
  | x => some x
def renC (r : Nat → Option Nat) : Cell → Option Cell
  | .p b o => onSome (r b) (fun b => some (.p b o)) none
  | .o x => onSome (renO r x) (fun x => some (.o x)) none
  | x => some x
def renCs (r : Nat → Option Nat) : List Cell → Option (List Cell)
  | [] => some []
  | x :: l => onSome (renC r x) (fun x => onSome (renCs r l) (fun l => some (x :: l)) none) none
def renT (r : Nat → Option Nat) : TV → Option TV
  | .c x => onSome (renC r x) (fun x => some (.c x)) none
  | .a l => onSome (renCs r l) (fun l => some (.a l)) none
def renTs (r : Nat → Option Nat) : List TV → Option (List TV)
  | [] => some []
  | x :: l => onSome (renT r x) (fun x => onSome (renTs r l) (fun l => some (x :: l)) none) none
def renV (r : Nat → Option Nat) : AV → Option AV
  | .c x => onSome (renC r x) (fun x => some (.c x)) none
  | .a l => onSome (renCs r l) (fun l => some (.a l)) none
  | .t l => onSome (renTs r l) (fun l => some (.t l)) none
def renE (r : Nat → Option Nat) : List (AV × AV × Nat) → Option (List (AV × AV × Nat))
  | [] => some []
  | e :: l => onSome (renV r e.1) (fun k => onSome (renV r e.2.1) (fun v => onSome (renE r l) (fun l => some ((k, v, e.2.2) :: l)) none) none) none
/-- Which have come, in whatever order. -/
def insSeen (x : Nat) : List Nat → List Nat
  | [] => [x]
  | y :: l => ifb (Nat.blt x y) (x :: y :: l) (ifb (Nat.beq x y) (y :: l) (y :: insSeen x l))
def setSeen : List Nat → List Nat
  | [] => []
  | x :: l => insSeen x (setSeen l)
def renG (r : Nat → Option Nat) : List (List Cell) → Option (List (List Cell))
  | [] => some []
  | g :: l => onSome (renCs r g) (fun g => onSome (renG r l) (fun l => some (g :: l)) none) none
def renB (r : Nat → Option Nat) (x : ABlk) : Option ABlk := ABlk.casesOn x none
  (fun e l _ _ => onSome (renCs r l) (fun l => some (.cells e l [] false)) none)
  (fun es c => onSome (renE r es) (fun es => some (.map es c)) none)
  (fun m s l t => some (.iter m s (setSeen l) t)) (fun _ => none) (fun gs => onSome (renG r gs) (fun gs => some (.perm gs)) none)
def renBs (τ : St) (r : Nat → Option Nat) : List Nat → Option (List ABlk)
  | [] => some []
  | b :: l => onSome (renB r (hget τ b)) (fun x => onSome (renBs τ r l) (fun l => some (x :: l)) none) none

/-- What a call hands back, told without what it leaves behind. -/
def canonA (m : Nat) (τ : St) (v : AV) : Option (AV × List ABlk) :=
  ifb (Nat.ble m (Nat.succ τ.dirty)) (onSome (reach τ m 20000 (refsV v) []) (fun S => onSome (renV (renN m S) v) (fun v => onSome (renBs τ (renN m S) S) (fun l => some (v, l)) none) none) none) none

def layNew : List ABlk → Hp → Nat → Option (Hp × Nat)
  | [], h, n => some (h, n)
  | x :: l, h, n => ifb (Nat.blt n 13824) (layNew l (hput h n x) (Nat.succ n)) none

def sameEs : List (AV × AV × Nat) → List (AV × AV × Nat) → Bool
  | [], [] => true
  | a :: l, b :: m => ifb (sameV a.1 b.1) (ifb (sameV a.2.1 b.2.1) (ifb (Nat.beq a.2.2 b.2.2) (sameEs l m) false) false) false
  | _, _ => false
def sameGs : List (List Cell) → List (List Cell) → Bool
  | [], [] => true
  | a :: l, b :: m => ifb (sameXs a b) (sameGs l m) false
  | _, _ => false
def sameOpt : Option Nat → Option Nat → Bool
  | none, none => true
  | some a, some b => Nat.beq a b
  | _, _ => false
/-- Two blocks that are told alike (of those that 'renB' makes). -/
def sameBlk : ABlk → ABlk → Bool
  | .cells e l _ _, .cells e' l' _ _ => ifb (Nat.beq e e') (sameXs l l') false
  | .map es c, .map es' c' => ifb (Nat.beq c c') (sameEs es es') false
  | .perm g, .perm g' => sameGs g g'
  | .iter m s l t, .iter m' s' l' t' => ifb (sameOpt m m') (ifb (Nat.beq s s') (ifb (Nat.beq t t') (eqNats l l') false) false) false
  | _, _ => false
def sameBlks : List ABlk → List ABlk → Bool
  | [], [] => true
  | a :: l, b :: m => ifb (sameBlk a b) (sameBlks l m) false
  | _, _ => false

def tvs : List AV → Option (List TV)
  | [] => some []
  | v :: l => onSome (toTV v) (fun v => onSome (tvs l) (fun l => some (v :: l)) none) none

/-! ### loops over maps: states at the head that are told alike are one -/
def firstNext : Code → Option Nat
  | .region _ ops false => match ops.toList with
    | o :: _ => match o.op with
      | .next (.tmp i) false => some i
      | _ => none
    | [] => none
  | .seq a _ => firstNext a
  | _ => none
def dstsOf : List Oper → List Nat
  | [] => []
  | o :: l => o.dst.toList ++ dstsOf l
/-- The slots that code may write. -/
def writesC : Code → List Nat
  | .region _ ops _ => dstsOf ops.toList
  | .seq a b => writesC a ++ writesC b
  | .cond _ a b => writesC a ++ writesC b
  | .block _ b => writesC b
  | .loop b => writesC b
  | _ => []
def notHas (K : List Nat) : List Nat → List Nat
  | [] => []
  | d :: l => ifb (has d K) (notHas K l) (d :: notHas K l)
def both (K : List Nat) : List Nat → List Nat
  | [] => []
  | d :: l => ifb (has d K) (d :: both K l) (both K l)
def ueOps (ops : List Oper) : List Oper → List Nat → List Nat × List Nat
  | [], K => ([], K)
  | o :: l, K => match ueOps ops l (match o.guard with
      | none => o.dst.toList ++ K
      | some _ => K) with
    | (u, K') => (notHas K (looksN ops o) ++ u, K')
/-- The slots that are read ahead of being written; and those that are surely written, if the code comes to its end. -/
def ueC : Code → List Nat → List Nat × Option (List Nat)
  | .skip, K => ([], some K)
  | .region _ ops _, K => match ueOps ops.toList ops.toList K with
    | (u, K') => (u, some K')
  | .seq a b, K => match ueC a K with
    | (u, none) => (u, none)
    | (u, some K') => match ueC b K' with
      | (u', r) => (u ++ u', r)
  | .cond c a b, K => match ueC a K, ueC b K with
    | (u, r), (u', r') => (notHas K (match c with
      | .tmp i => [i]
      | _ => []) ++ u ++ u', match r, r' with
        | none, r' => r'
        | r, none => r
        | some x, some y => some (both x y))
  | .block _ b, K => ((ueC b K).1, some K)
  | .loop b, K => ((ueC b K).1, none)
  | .exit _, _ => ([], none)
  | .ret, _ => ([], none)
  | _, K => ([], some K)
def dedup : List Nat → List Nat
  | [] => []
  | d :: l => ifb (has d l) (dedup l) (d :: dedup l)
/-- What a round hands on to the next one; what else it writes. -/
def carriedC (b : Code) : List Nat := both (ueC b []).1 (dedup (writesC b))
def killedC (b : Code) : List Nat := notHas (ueC b []).1 (dedup (writesC b))

def pvs (q : Nat) : Nat → Nat → List Cell
  | _, 0 => []
  | j, n + 1 => .o (.pv q j) :: pvs q (Nat.succ j) n
def isPvs (q : Nat) : Nat → List Cell → Bool
  | _, [] => true
  | j, x :: l => ifb (sameX x (.o (.pv q j))) (isPvs q (Nat.succ j) l) false
def chunk (s : Nat) : Nat → List Cell → Option (List (List Cell))
  | 0, [] => some []
  | 0, _ :: _ => none
  | n + 1, l => onSome (takeN s l) (fun g => onSome (chunk s n (dropN s l)) (fun r => some (g :: r)) none) none
def allLen (s : Nat) : List (List Cell) → Bool
  | [] => true
  | g :: l => ifb (Nat.beq g.length s) (allLen s l) false
def ltC : Cell → Cell → Option Bool
  | .i _ a, .i _ b => ifb (eqI a b) none (some (ltI a b))
  | .s a, .s b => ifb (eqNats a b) none (some (ltNats a b))
  | .b a, .b b => ifb a (ifb b none (some false)) (ifb b (some true) none)
  | .p a x, .p b y => ifb (Nat.beq a b) (ifb (Nat.beq x y) none (some (Nat.blt x y))) (some (Nat.blt a b))
  | .i _ _, _ => some true
  | _, .i _ _ => some false
  | .s _, _ => some true
  | _, .s _ => some false
  | _, _ => none
def ltG : List Cell → List Cell → Bool
  | x :: l, y :: m => onSome (ltC x y) (fun b => b) (ltG l m)
  | _, _ => false
def insG (g : List Cell) : List (List Cell) → List (List Cell)
  | [] => [g]
  | h :: l => ifb (ltG g h) (g :: h :: l) (h :: insG g l)
def sortG : List (List Cell) → List (List Cell)
  | [] => []
  | g :: l => insG g (sortG l)
/-- A row that grows round by round: its values in whatever order. -/
def bagAt (m : Nat) (L : List ABlk) : TV → Option (List ABlk)
  | .c (.o (.slc b 0 len _ (s + 1))) => ifb (ifb (oldN m b) true (ifb (Nat.ble 2 len) (Nat.beq s 0) true)) none
    (match nth (Nat.sub b (Nat.pred m)) L with
    | some (.cells e l [] false) => ifb (Nat.beq l.length (Nat.mul len s))
      (match l with
      | .o (.pv q 0) :: _ => match nth (Nat.sub q (Nat.pred m)) L with
        | some (.perm gs) => ifb (ifb (oldN m q) true (Nat.beq q b)) none (onSome (takeN (Nat.mul gs.length s) l) (fun had => ifb (ifb (isPvs q 0 had) (allLen s gs) false)
            (onSome (chunk s (Nat.sub len gs.length) (dropN (Nat.mul gs.length s) l)) (fun r =>
              some (setN (Nat.sub b (Nat.pred m)) (.cells e (pvs q 0 l.length) [] false) (setN (Nat.sub q (Nat.pred m)) (.perm (sortG (r ++ gs))) L))) none) none) none)
        | _ => none
      | _ => onSome (chunk s len l) (fun r => some (setN (Nat.sub b (Nat.pred m)) (.cells e (pvs (Nat.add (Nat.pred m) L.length) 0 l.length) [] false) L ++ [.perm (sortG r)])) none) none
    | _ => none)
  | _ => none
def bagK (m : Nat) (L : List ABlk) : List TV → List ABlk
  | [] => L
  | v :: vs => onSome (bagAt m L v) (fun L => L) (bagK m L vs)

/-- What is told of a state at a loop's head, of what is newer than the iterator. -/
abbrev Key := List TV × List ABlk
def tellA (m : Nat) (it : AV) (vals : List AV) (τ : St) : Option Key :=
  ifb ((hget τ (Nat.pred m)).onIter (fun _ _ _ _ => true) false)
    (onSome (tvs (it :: vals)) (fun vs => onSome (canonA m τ (.t vs)) (fun c => c.1.onT (fun vs => some (vs, bagK m c.2 vs)) none) none) none) none
def sameKey (k l : Key) : Bool := ifb (sameTs k.1 l.1) (sameBlks k.2 l.2) false
def hasKey (k : Key) : List Key → Bool
  | [] => false
  | l :: ks => ifb (sameKey k l) true (hasKey k ks)
def getsB : List Nat → Bx (T → List AV)
  | [] => ⟨fun _ => []⟩
  | d :: l => (getT d).use fun g => (getsB l).use fun r => ⟨fun t => g t :: r t⟩
def putsB : List Nat → Bx (List TV → T → T)
  | [] => ⟨fun _ t => t⟩
  | d :: l => (putT d).use fun p => (putsB l).use fun r => ⟨fun vs t => match vs with
    | [] => t
    | v :: vs => r vs (p (ofTV v) t)⟩
def killB : List Nat → Bx (T → T)
  | [] => ⟨fun t => t⟩
  | d :: l => (putT d).use fun p => (killB l).use fun r => ⟨fun t => r (p .any t)⟩
def buildH (puts : List TV → T → T) (t : T) (h : Hp) (m : Nat) (k : Key) : Option TS :=
  onSome (layNew k.2 h (Nat.pred m)) (fun r => some ⟨puts (match k.1 with
    | [] => []
    | _ :: vs => vs) t, ⟨r.1, Nat.succ r.2, Nat.pred m⟩⟩) none

/-- Outcomes of a round: those that leave the loop; what is told of the others; those of which nothing is told. -/
structure Gone where
  done : List Out
  keys : List Key
  rest : List TS
def goneOf (tell : T → St → Option Key) : List Out → Gone
  | [] => ⟨[], [], []⟩
  | o :: l => match goneOf tell l with
    | ⟨d, k, r⟩ => Out.casesOn o fun x t σ => X.casesOn x
      (onSome (tell t σ) (fun q => ifb (hasKey q k) ⟨d, k, r⟩ ⟨d, q :: k, r⟩) ⟨d, k, ⟨t, σ⟩ :: r⟩)
      (fun i => ⟨⟨.ex i, t, σ⟩ :: d, k, r⟩) ⟨⟨.rt, t, σ⟩ :: d, k, r⟩
def buildAll (build : Key → Option TS) : List Key → Option (List TS)
  | [] => some []
  | k :: l => onSome (build k) (fun s => onSome (buildAll build l) (fun r => some (s :: r)) none) none
def loopH (body : T → St → R Out) (tell : T → St → Option Key) (build : Key → Option TS) : Nat → List TS → R Out
  | 0, _ => .err "loop"
  | n + 1, l => R.bind (R.casesOn (R.all (fun s => TS.casesOn s fun t σ => body t σ) l) (fun s => .err s) (fun o => .one [o]) (fun os => .one os)) fun os =>
    match goneOf tell os with
    | ⟨d, k, r⟩ => onSome (buildAll build k) (fun b => match b ++ r with
      | [] => .many d
      | next => R.app (.many d) (loopH body tell build n next)) (.err "head")
def reDirtyO (d : Nat) (o : Out) : R Out := Out.casesOn o fun x t σ => St.casesOn σ fun h n e => .one ⟨x, t, ⟨h, n, minN d e⟩⟩
/-- Is it worth while? -/
def bigMap (σ : St) (r : Nat) : Bool := (hget σ r).onIter (fun m _ _ _ => Option.casesOn m false fun m => (hget σ m).onMap (fun es _ => Nat.ble 3 es.length) false) false
def loopA (b : Code) (body : Call → T → St → R Out) (it : Nat) : Bx (Call → T → St → R Out) :=
  (getT it).use fun g => (getsB (carriedC b)).use fun gets => (putsB (carriedC b)).use fun puts => (killB (killedC b)).use fun kill =>
  ⟨fun call t σ => (g t).onP (fun r off => St.casesOn σ fun h n d => ifb (ifb (Nat.beq off 0) (ifb (Nat.beq n (Nat.succ (Nat.succ r))) (bigMap ⟨h, n, d⟩ r) false) false)
    (R.bind (loopH (body call) (fun t τ => tellA (Nat.succ r) (.ptr r 0) (gets t) τ) (buildH puts (kill t) h (Nat.succ r)) 100000 [⟨t, ⟨h, n, n⟩⟩]) (reDirtyO d))
    (loopN (body call) 100000 t ⟨h, n, d⟩)) (loopN (body call) 100000 t σ)⟩

def outX (id : Nat) (o : Out) : R Out :=
  Out.casesOn o fun x t σ => X.casesOn x (.one ⟨.nm, t, σ⟩) (fun i => .one ⟨ifb (Nat.beq i id) .nm (.ex i), t, σ⟩) (.one ⟨.rt, t, σ⟩)

def codeB (P : Program) (Γ : Tab) (n : Nat) : Code → Bx (Call → T → St → R Out)
  | .skip => ⟨fun _ t σ => .one ⟨.nm, t, σ⟩⟩
  | .region _ ops false => (opsB P Γ n ops.toList ops.toList).use fun k => ⟨fun call t σ => R.bind (k call t σ) fun r => TS.casesOn r fun t σ => .one ⟨.nm, t, σ⟩⟩
  | .region _ ops true => (drawnB P Γ n ops.toList).use fun k => ⟨fun call t σ => R.bind (k call t σ) fun r => TS.casesOn r fun t σ => .one ⟨.nm, t, σ⟩⟩
  | .seq a b => ⟨fun call t σ => R.bind ((codeB P Γ n a).run call t σ) fun o => Out.casesOn o fun x t σ => X.casesOn x ((codeB P Γ n b).run call t σ) (fun i => .one ⟨.ex i, t, σ⟩) (.one ⟨.rt, t, σ⟩)⟩
  | .cond c a b => (operB c).use fun f => ⟨fun call t σ => (f t).onB (fun x => ifb x ((codeB P Γ n a).run call t σ) ((codeB P Γ n b).run call t σ)) (forkB σ (f t) "cond" fun x σ => ifb x ((codeB P Γ n a).run call t σ) ((codeB P Γ n b).run call t σ))⟩
  | .block id b => ⟨fun call t σ => R.bind ((codeB P Γ n b).run call t σ) (outX id)⟩
  | .loop b => match firstNext b with
    | none => ⟨fun call t σ => loopN ((codeB P Γ n b).run call) 100000 t σ⟩
    | some it => loopA b (codeB P Γ n b).run it
  | .exit id => ⟨fun _ t σ => .one ⟨.ex id, t, σ⟩⟩
  | .ret => ⟨fun _ t σ => .one ⟨.rt, t, σ⟩⟩
  | _ => ⟨fun _ _ _ => .err "code"⟩

def argsT : Nat → List AV → T → T
  | _, [], t => t
  | i, v :: l, t => argsT (Nat.succ i) l ((putT i).run v t)

def resB (Γ : Tab) : List ResultVar → Bx (T → St → Option (List AV))
  | [] => ⟨fun _ _ => some []⟩
  | .tmp i :: l => (getT i).use fun g => (resB Γ l).use fun r => ⟨fun t σ => onSome (r t σ) (fun vs => some (g t :: vs)) none⟩
  | .cell a ty :: l => (getT a).use fun g => (loadB Γ ty).use fun ld => (resB Γ l).use fun r => ⟨fun t σ => onSome (ld σ (g t)) (fun v => onSome (r t σ) (fun vs => some (v :: vs)) none) none⟩

def retV : List AV → Option AV
  | [v] => some v
  | l => onSome (tvs l) (fun l => some (.t l)) none

def finB (Γ : Tab) (fn : Func) : Bx (Out → R (AV × St)) :=
  (resB Γ fn.results.toList).use fun r => ⟨fun o => Out.casesOn o fun x t σ => X.casesOn x (onSome (r t σ) (fun vs => onSome (retV vs) (fun v => .one (v, σ)) (.err "results")) (.err "results"))
    (fun _ => .err "exit")
    (onSome (r t σ) (fun vs => onSome (retV vs) (fun v => .one (v, σ)) (.err "results")) (.err "results"))⟩

def funB (P : Program) (Γ : Tab) (f : FuncId) : Bx (Call → List AV → St → R (AV × St)) :=
  match Γ.fn f with
  | none => ⟨fun _ _ _ => .err "no such function"⟩
  | some fn => match fn.body with
    | none => ⟨fun _ _ _ => .err fn.name⟩
    | some c => (finB Γ fn).use fun fin => (codeB P Γ fn.ntmps c).use fun body => ⟨fun call args σ => ifb (Nat.ble args.length fn.ntmps) (R.bind (body call (argsT 0 args T.zero) σ) fin) (.err fn.name)⟩

def sameAll (m : Nat) (c : AV × List ABlk) : List (AV × St) → Bool
  | [] => true
  | r :: l => onSome (canonA m r.2 r.1) (fun d => ifb (ifb (sameV d.1 c.1) (sameBlks d.2 c.2) false) (sameAll m c l) false) false

def reDirty (d : Nat) (r : AV × St) : AV × St := Prod.casesOn r fun v τ => St.casesOn τ fun h n e => (v, ⟨h, n, minN d e⟩)

def joinL (σ : St) : List (AV × St) → Option (AV × St)
  | [] => none
  | r :: l => onSome (canonA σ.next r.2 r.1) (fun c => ifb (sameAll σ.next c l) (onSome (layNew c.2 σ.heap (Nat.pred σ.next)) (fun h => some (c.1, ⟨h.1, Nat.succ h.2, σ.dirty⟩)) none) none) none

/-- Outcomes of a call that are told alike are one. -/
def joinR (σ : St) (r : R (AV × St)) : R (AV × St) := R.casesOn r (fun s => .err s) (fun a => .one (reDirty σ.dirty a))
  (fun l => onSome (joinL σ l) (fun a => .one a) (.many (l.map (reDirty σ.dirty))))

/-! ### functions that are run by themselves -/
section
variable {α : Type}
def forceN (a : Nat) (k : Nat → α) : α := Nat.casesOn a (k 0) (fun n => k (Nat.succ n))
def forceI (a : Int) (k : Int → α) : α := Int.casesOn a (fun n => forceN n fun n => k (.ofNat n)) (fun n => forceN n fun n => k (.negSucc n))
def forceK (a : IntKind) (k : IntKind → α) : α := IntKind.casesOn a (k .i8) (k .i16) (k .i32) (k .i64) (k .u8) (k .u16) (k .u32) (k .u64)
def forceS : List Nat → (List Nat → α) → α
  | [], k => k []
  | a :: l, k => forceN a fun a => forceS l fun l => k (a :: l)
def forceC (x : Cell) (k : Cell → α) : α := Cell.casesOn x (fun j n => forceK j fun j => forceI n fun n => k (.i j n)) (fun b o => k (.p b o)) (fun b => Bool.casesOn b (k (.b false)) (k (.b true))) (fun s => forceS s fun s => k (.s s)) (fun x => k (.o x))
def forceCs : List Cell → (List Cell → α) → α
  | [], k => k []
  | a :: l, k => forceC a fun a => forceCs l fun l => k (a :: l)
def forceV (x : AV) (k : AV → α) : α := AV.casesOn x (fun x => forceC x fun x => k (.c x)) (fun l => forceCs l fun l => k (.a l)) (fun l => k (.t l))
def forceVs : List AV → (List AV → α) → α
  | [], k => k []
  | a :: l, k => forceV a fun a => forceVs l fun l => k (a :: l)
end
def noRefs (x : AV) : Bool := List.casesOn (refsV x) true (fun _ _ => false)
def noRefsL : List AV → Bool
  | [] => true
  | x :: l => ifb (noRefs x) (noRefsL l) false
def pureA (pc : Call) (f : FuncId) (args : List AV) (σ : St) : R (AV × St) :=
  forceVs args fun args => ifb (noRefsL args) (R.bind (pc f args ⟨Hp.zero, 1, 0⟩) fun r => ifb (noRefs r.1) (.one (r.1, σ)) (.err "no value of its own")) (.err "no values of their own")

def callW (P : Program) (Γ : Tab) (pc : Call) : Nat → Call
  | 0 => fun _ _ _ => .err "depth"
  | n + 1 => fun f args σ => onSome (Option.casesOn (Γ.sum f) none (fun s => s (callW P Γ pc n) args σ)) (fun r => r) (ifb (Γ.pure f) (pureA pc f args σ) (joinR σ ((funB P Γ f).run (callW P Γ pc n) args (St.casesOn σ fun h m _ => ⟨h, m, m⟩))))

def noCall : Call := fun _ _ _ => .err "depth"
/-- The table without functions that are run by themselves. -/
def Tab.plain (Γ : Tab) : Tab := ⟨Γ.info, Γ.fn, Γ.ext, fun _ => false, Γ.leaf, Γ.sum⟩
/-- The table in which the leaves alone are run by themselves. -/
def Tab.low (Γ : Tab) : Tab := ⟨Γ.info, Γ.fn, Γ.ext, Γ.leaf, Γ.leaf, Γ.sum⟩
def callL (P : Program) (Γ : Tab) : Nat → Call := callW P Γ.low (callW P Γ.plain noCall 20)
/-- The run: leaves, and what else is run by itself: with leaves alone, sixty calls deep at most. -/
def callN (P : Program) (Γ : Tab) : Nat → Call := callW P Γ (callL P Γ 60)
/-- Memory ahead of the run: nothing but facts. -/
def St.start (F : List Fact) : St := ⟨hput Hp.zero 0 (.facts F), 2, 0⟩

end Go.Ev
