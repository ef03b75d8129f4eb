/- What each operation, each region and each body does to abstract states, in the form of a condition on what comes behind it; and what a contract of a function says. No condition. -/
import Derived.Test.YtbknlijpkabcnaaGreatK1
namespace Go.Proofs.YtbknlijpkabcnaaGreat.K
open Go

/-- What the proofs use of a type. -/
inductive TK where
  | int (k : IntKind)
  | bool
  | str
  | slice (e : Nat)
  | struct (fs : List (Nat × Nat))
  | ptr (e : Nat)
  | func
  | iface

structure TI where
  k : TK
  size : Nat
  bytes : Nat
  zero : AV

abbrev Tab := Nat → Option TI

def TK.ok (P : Program) : TK → TypeDesc → Prop
  | .int k, .int k' => k = k'
  | .bool, .bool => True
  | .str, .string => True
  | .slice e, .slice e' => e = e'
  | .struct fs, .struct gs => gs.toList.map (fun g => (g.offset, g.type)) = fs ∧ ∀ g ∈ gs.toList, ∃ i, P.info? g.type = some i ∧ i.size ≠ 0
  | .ptr e, .pointer e' => e = e'
  | .func, .func _ _ _ => True
  | .iface, .interface _ => True
  | _, _ => False

structure TI.Ok (P : Program) (t : Nat) (ti : TI) : Prop where
  desc : ∃ d, P.underlying t = some d ∧ ti.k.ok P d
  info : ∃ i v, P.info? t = some i ∧ i.size = ti.size ∧ i.bytes = ti.bytes ∧ i.zero = some v ∧ ofVal v = ti.zero ∧ v.cells.size = ti.size
  pos : 0 < ti.size ∧ 0 < ti.bytes
  one : (match ti.k with | .struct _ => True | _ => ti.size = 1)
  zero : ti.zero.solid = true ∧ ti.zero.cells.length = ti.size ∧ ∀ c ∈ ti.zero.cells, c.good = true

def Tab.Ok (P : Program) (T : Tab) : Prop := ∀ t ti, T t = some ti → ti.Ok P t

/-- A value of a type out of cells. -/
def mkv (ti : TI) (cs : List AV) : AV :=
  match ti.k with
  | .struct _ => .agg (cs.take ti.size)
  | _ => match cs with
    | c :: _ => c
    | [] => .any

def setCells (cs : List AV) (off : Nat) (new : List AV) : List AV := cs.take off ++ new ++ cs.drop (off + new.length)

/-- An element with cells from a place on turned. -/
def putCells (z : Nat) (x : AV) (off : Nat) (v : AV) : AV :=
  bif Nat.beq v.cells.length z then v else .agg (setCells x.cells off v.cells)

abbrev Kont := AV → List (Nat × Option AObj) → List Nat → Prop

def BS (t : Bool) (A B : Prop) : Prop := match t with | true => A | false => B
structure PS (q : Prop) (A B : Prop) : Prop where
  t : q → A
  f : ¬ q → B
def NZ (y : Int) (A : Prop) : Prop := match y with | .ofNat 0 => False | .ofNat (_ + 1) => A | .negSucc _ => A
def NN (y : Int) (A : Prop) : Prop := match y with | .ofNat _ => A | .negSucc _ => False
/-- A premise that the machine gives: it may be used behind it. -/
structure HY (q : Prop) (A : Prop) : Prop where
  f : q → A
/-- A premise that is to be shown. -/
structure OB (q : Prop) (A : Prop) : Prop where
  q : q
  a : A
/-- An element that is to be named. -/
structure EX (xs : List AV) (n : Nat) (A : AV → Prop) : Prop where
  ex : ∃ x, xs[n]? = some x ∧ A x
structure AL {α : Type} (A : α → Prop) : Prop where
  f : ∀ x, A x

def bitOp (f : ∀ n, BitVec n → BitVec n → BitVec n) (k : IntKind) (a b : Int) : Int := k.wrap (f k.bits (BitVec.ofInt k.bits a) (BitVec.ofInt k.bits b)).toNat
def band (k : IntKind) (a b : Int) : Int := bitOp (fun _ x y => x &&& y) k a b
def bor (k : IntKind) (a b : Int) : Int := bitOp (fun _ x y => x ||| y) k a b
def bxor (k : IntKind) (a b : Int) : Int := bitOp (fun _ x y => x ^^^ y) k a b

def AV.tq : AV → Option Prop
  | .b x => some (x = true)
  | .p q => some q
  | _ => none

/-- What a slice holds, and which objects tell it. -/
def cont (o : Ob) : AV → Option (List AV)
  | .nil => some []
  | .e0 => some []
  | .sl _ xs => some xs
  | .own id => match o id with
    | some (.arr _ xs) => some xs
    | _ => none
  | .ref id lo len => match o id with
    | some (.arr _ xs) => some ((xs.drop lo).take len)
    | _ => none
  | _ => none

def idsC : AV → List Nat
  | .own id => [id]
  | .ref id _ _ => [id]
  | .ptr id _ => [id]
  | .ep id _ _ => [id]
  | _ => []

def idsB (o : Ob) (c : AV) : List Nat := match c with
  | .ptr id _ => match o id with
    | some (.box cs) => id :: cs.flatMap idsC
    | _ => [id]
  | c => idsC c

def ids (o : Ob) : AV → List Nat
  | .agg cs => cs.flatMap (idsB o)
  | .fn _ a c => a.flatMap (idsB o) ++ c.flatMap (idsB o)
  | c => idsB o c

/-- An operation on two values. -/
def abin (op : BinOp) (yc : Bool) (x y : AV) (K : AV → Prop) : Prop :=
  match x, y with
  | .i k a, .i k' c => match op with
    | .shl => NN c (K (.i k (k.wrap (a * 2 ^ (min c.toNat k.bits)))))
    | .shr => NN c (K (.i k (a.fdiv (2 ^ (min c.toNat k.bits)))))
    | .add => if k = k' then K (.i k (k.wrap (a + c))) else False
    | .sub => if k = k' then K (.i k (k.wrap (a - c))) else False
    | .mul => if k = k' then K (.i k (k.wrap (a * c))) else False
    | .quo => if k = k' then NZ c (K (.i k (k.wrap (a.tdiv c)))) else False
    | .rem => if k = k' then NZ c (K (.i k (a.tmod c))) else False
    | .and => if k = k' then K (.i k (band k a c)) else False
    | .or => if k = k' then K (.i k (bor k a c)) else False
    | .xor => if k = k' then K (.i k (bxor k a c)) else False
    | .eql => if k = k' then K (.p (a = c)) else False
    | .neq => if k = k' then K (.p (a ≠ c)) else False
    | .lss => if k = k' then K (.p (a < c)) else False
    | .leq => if k = k' then K (.p (a ≤ c)) else False
    | .gtr => if k = k' then K (.p (c < a)) else False
    | .geq => if k = k' then K (.p (c ≤ a)) else False
    | .andNot => False
  | .s a, .s c => match op with
    | .add => OB (a.length + c.length ≤ maxLen) (K (.s (a ++ c)))
    | .eql => K (.p (a = c))
    | .neq => K (.p (a ≠ c))
    | _ => False
  | .b a, .b c => match op with
    | .eql => K (.p (a = c))
    | .neq => K (.p (a ≠ c))
    | _ => False
  | .b a, .p c => match op with
    | .eql => K (.p (a = true ↔ c))
    | .neq => K (.p ¬ (a = true ↔ c))
    | _ => False
  | .p a, .b c => match op with
    | .eql => K (.p (a ↔ c = true))
    | .neq => K (.p ¬ (a ↔ c = true))
    | _ => False
  | .p a, .p c => match op with
    | .eql => K (.p (a ↔ c))
    | .neq => K (.p ¬ (a ↔ c))
    | _ => False
  | .ni, .ni => match yc, op with
    | true, .eql => K (.b true)
    | true, .neq => K (.b false)
    | _, _ => False
  | .ifc _ _, .ni => match op with
    | .eql => K (.b false)
    | .neq => K (.b true)
    | _ => False
  | _, _ => False

def isC : Operand → Bool
  | .const _ => true
  | _ => false

/-- The type that an operation on two values speaks of is what it must be. -/
def bok (T : Tab) (t : Nat) : AV → Bool
  | .b _ => match T t with
    | some ⟨.bool, _, _, _⟩ => true
    | _ => false
  | .p _ => match T t with
    | some ⟨.bool, _, _, _⟩ => true
    | _ => false
  | .ni => match T t with
    | some ⟨.iface, _, _, _⟩ => true
    | _ => false
  | .ifc _ _ => match T t with
    | some ⟨.iface, _, _, _⟩ => true
    | _ => false
  | _ => true

/-- The cells of a struct with parts put in. -/
def fillA (T : Tab) (fs : List (Nat × Nat)) : List AV → List (Nat × AV) → Option (List AV)
  | cs, [] => some cs
  | cs, (i, v) :: r => match fs[i]? with
    | some (off, t) => match T t with
      | some ti => bif v.solid && Nat.beq v.cells.length ti.size && Nat.ble (off + ti.size) cs.length then fillA T fs (setCells cs off v.cells) r else none
      | none => none
    | none => none

def fillE (z : Nat) : List AV → List (Nat × AV) → Option (List AV)
  | xs, [] => some xs
  | xs, (i, v) :: r => bif v.solid && Nat.beq v.cells.length z && v.cells.all AV.good && Nat.blt i xs.length then fillE z (xs.set i v) r else none

/-- What a call sees of its caller's values: objects that are handed over by a name of its own, the others as they read. -/
def idx (m : List Nat) (id : Nat) : Option Nat :=
  match m with
  | [] => none
  | j :: m => bif Nat.beq j id then some 0 else (idx m id).map (· + 1)

def downC (m : List Nat) (o : Ob) : AV → AV
  | .own id => match idx m id with
    | some j => .own j
    | none => match o id with
      | some (.arr z xs) => .sl z xs
      | _ => .any
  | .ref id lo len => match idx m id with
    | some j => .ref j lo len
    | none => match o id with
      | some (.arr z xs) => .sl z ((xs.drop lo).take len)
      | _ => .any
  | .ptr id off => match idx m id with
    | some j => .ptr j off
    | none => .any
  | .ep id i off => match idx m id with
    | some j => .ep j i off
    | none => .any
  | .agg _ => .any
  | .tup _ => .any
  | .fn _ _ _ => .any
  | .ifc _ _ => .any
  | c => c

def downB (m : List Nat) (o : Ob) (c : AV) : AV := match c with
  | .ptr id off => match idx m id with
    | some j => .ptr j off
    | none => match o id with
      | some (.box cs) => bif (cs.drop off).all (fun c => (downC m o c).pure) then .rp ((cs.drop off).map (downC m o)) else .any
      | _ => .any
  | c => downC m o c

def down (m : List Nat) (o : Ob) : AV → AV
  | .agg cs => .agg (cs.map (downB m o))
  | .fn f a c => .fn f (a.map (downB m o)) (c.map (downB m o))
  | c => downB m o c

def downO (m : List Nat) (o : Ob) : AObj → AObj
  | .box cs => .box (cs.map (downC m o))
  | .arr z xs => .arr z xs

/-- And what the caller sees of a call's names. -/
def upN (m : List Nat) (b j : Nat) : Nat :=
  match m with
  | [] => b + j
  | id :: m => match j with
    | 0 => id
    | j + 1 => upN m b j

def upC (m : List Nat) (b : Nat) : AV → AV
  | .own j => .own (upN m b j)
  | .ref j lo len => .ref (upN m b j) lo len
  | .ptr j off => .ptr (upN m b j) off
  | .ep j i off => .ep (upN m b j) i off
  | .agg _ => .any
  | .tup _ => .any
  | .fn _ _ _ => .any
  | .ifc t v => bif v.pure then .ifc t v else .any
  | c => c

def upA (m : List Nat) (b : Nat) : AV → AV
  | .agg cs => .agg (cs.map (upC m b))
  | c => upC m b c

def up (m : List Nat) (b : Nat) : AV → AV
  | .tup vs => .tup (vs.map (upA m b))
  | c => upA m b c

def upO (m : List Nat) (b : Nat) : AObj → AObj
  | .box cs => .box (cs.map (upC m b))
  | .arr z xs => .arr z xs

def wrs (m0 : List Nat) (b0 : Nat) : List Nat → Nat → List (Option AObj) → List (Nat × Option AObj)
  | _, _, [] => []
  | id :: m, b, x :: l => (id, x.map (upO m0 b0)) :: wrs m0 b0 m b l
  | [], b, x :: l => (b, x.map (upO m0 b0)) :: wrs m0 b0 [] (b + 1) l

/-- A function, called: it is entered and returns, or the machine answers at once. -/
def Does (P : Program) (f : FuncId) (args : Array Value) (w : World) (post : Value → World → Prop) : Prop :=
  ((callFunc f args).run P w = .ok (.enter f args) w ∧ Calls P f args w fun e w' => ∃ v, e = .returned v ∧ post v w') ∨
  ∃ v w', (callFunc f args).run P w = .ok (.value v) w' ∧ post v w'

/-- A cell that leads to no memory. -/
def AV.flat : AV → Bool
  | .sl _ _ => false
  | .rp _ => false
  | .fn _ _ _ => false
  | .agg _ => false
  | .tup _ => false
  | .ifc _ v => match v with
    | .np => true
    | .i _ _ => true
    | .s _ => true
    | _ => false
  | _ => true

/-- Nothing of what is handed back leads to memory that is not an object's. -/
def FlatO : AObj → Prop
  | .box cs => cs.all AV.flat = true
  | .arr _ xs => ∀ x ∈ xs, ∀ c ∈ x.cells, c.flat = true
def AV.flatV : AV → Bool
  | .agg cs => cs.all AV.flat
  | .tup vs => vs.all fun v => match v with
    | .agg cs => cs.all AV.flat
    | c => c.flat
  | c => c.flat
def Flat (ret : AV) (co' : List (Option AObj)) : Prop := ret.flatV = true ∧ ∀ ob, some ob ∈ co' → FlatO ob

/-- A contract: called with arguments that read so, and with these objects, the function returns what reads so, with these objects behind it; nothing else of what was there has turned. -/
def Con (P : Program) (f : FuncId) (args : List AV) (co : List AObj) (ret : AV) (co' : List (Option AObj)) : Prop :=
  ∀ (φ : Phi) (w : World) (vs : List Value), ORel φ (fun j => co[j]?) w → (∀ g, φ.x g → g < w.heap.size) → (∀ j, co.length ≤ j → φ j = none) → vs.length = args.length →
    (∀ (k : Nat) (v : Value) (c : AV), vs[k]? = some v → args[k]? = some c → R w φ (owns φ fun j => co[j]?) v c) →
    Does P f vs.toArray w fun v w' => ∃ φ' : Phi, φ.le φ' ∧ ORel φ' (fun j => (co'[j]?).join) w' ∧ R w' φ' (owns φ' fun j => (co'[j]?).join) v ret ∧
      Fr w (live φ fun j => co[j]?) w' (live φ' fun j => (co'[j]?).join) ∧ ∀ j, co'.length ≤ j → φ' j = none

/-- The objects that a call sees without being handed them. -/
def seen (m : List Nat) (l : List Nat) : List Nat := l.filter fun id => !(m.any fun j => Nat.beq j id)

/-- The new objects as they read, where they are to be turned no more. -/
def frzC (n : Nat) (co' : List (Option AObj)) : AV → AV
  | .own j => bif Nat.ble n j then match (co'[j]?).join with
      | some (.arr z xs) => .sl z xs
      | _ => .any
    else .own j
  | .ref j lo len => bif Nat.ble n j then .any else .ref j lo len
  | .ptr j off => bif Nat.ble n j then .any else .ptr j off
  | .ep j i off => bif Nat.ble n j then .any else .ep j i off
  | .fn _ _ _ => .any
  | .agg _ => .any
  | .tup _ => .any
  | .ifc t v => bif v.pure then .ifc t v else .any
  | c => c
def frzA (n : Nat) (co' : List (Option AObj)) : AV → AV
  | .agg cs => .agg (cs.map (frzC n co'))
  | c => frzC n co' c
def frz (n : Nat) (co' : List (Option AObj)) : AV → AV
  | .tup vs => .tup (vs.map (frzA n co'))
  | c => frzA n co' c
def frzO (n : Nat) (co' : List (Option AObj)) : AObj → AObj
  | .box cs => .box (cs.map (frzC n co'))
  | .arr z xs => .arr z xs
def frzL (n : Nat) (co' : List (Option AObj)) : List (Option AObj) := (co'.take n).map fun x => x.map (frzO n co')

def boxIds (m : List Nat) (o : Ob) : List Nat := m.flatMap fun id => match o id with
  | some (.box cs) => cs.flatMap idsC
  | _ => []

/-- A call. fz: its new objects are not to be turned. m: the objects that are handed over. -/
structure CK (P : Program) (f : FuncId) (b : Nat) (avs : List AV) (o : Ob) (K : Kont) : Prop where
  ex : ∃ (fz : Bool) (m : List Nat) (co : List AObj) (ret : AV) (co' : List (Option AObj)),
    Con P f (avs.map (down m o)) co ret co' ∧ m.Nodup ∧ m.map (fun id => (o id).map (downO m o)) = co.map some ∧ m.length ≤ co'.length ∧ co'.length ≤ m.length + 16 ∧
      (seen m (boxIds m o ++ avs.flatMap (ids o)) = [] ∨ Flat ret co') ∧
      K (up m b (bif fz then frz m.length co' ret else ret)) (wrs m b m b (bif fz then frzL m.length co' else co')) (m ++ boxIds m o ++ avs.flatMap (ids o))

/-- A part of a list; hn: up to its end. -/
def sub {α : Type} (l : List α) (a h : Nat) (hn : Bool) : List α := bif hn then l.drop a else (l.take h).drop a

/-- The bounds of a part of what has n elements. -/
def bnds (ρ : Operand → AV) (lo hi : Option Operand) (n : Nat) (X : Nat → Nat → Bool → Prop) : Prop :=
  match lo, hi with
  | none, none => X 0 n true
  | some x, none => match ρ x with
    | .i _ a => OB (0 ≤ a ∧ a ≤ n) (X a.toNat n true)
    | _ => False
  | none, some y => match ρ y with
    | .i _ h => OB (0 ≤ h ∧ h ≤ n) (X 0 h.toNat false)
    | _ => False
  | some x, some y => match ρ x, ρ y with
    | .i _ a, .i _ h => OB (0 ≤ a ∧ a ≤ h ∧ h ≤ n) (X a.toNat h.toNat false)
    | _, _ => False

/-- What an operation comes to. b: the first of the names that it may give. -/
def aop (P : Program) (T : Tab) (b : Nat) (ρ : Operand → AV) (o : Ob) (op : Op) (K : Kont) : Prop :=
  match op with
  | .move x => K (ρ x) [] []
  | .assign x => K (ρ x) [] []
  | .pick c x y => match ρ c with
    | .b t => BS t (K (ρ x) [] []) (K (ρ y) [] [])
    | .p q => PS q (K (ρ x) [] []) (K (ρ y) [] [])
    | _ => False
  | .alloc t => match T t with
    | some ti => K (.ptr b 0) [(b, some (.box ti.zero.cells))] []
    | none => False
  | .box _ x => bif (ρ x).solid then K (.ptr b 0) [(b, some (.box (ρ x).cells))] [] else False
  | .build t ps => match T t with
    | some ⟨.struct fs, _, _, z⟩ => match fillA T fs z.cells (ps.toList.map fun q => (q.1, ρ q.2)) with
      | some cs => K (.agg cs) [] []
      | none => False
    | _ => False
  | .buildSlice t len ps => match T t with
    | some ⟨.slice e, _, _, _⟩ => match T e with
      | some te => bif Nat.ble (len * te.size) 16777216 then
          match fillE te.size (List.replicate len te.zero) (ps.toList.map fun q => (q.1, ρ q.2)) with
          | some xs => K (.own b) [(b, some (.arr te.size xs))] []
          | none => False
        else False
      | none => False
    | _ => False
  | .load t x => match T t with
    | some ti => match ρ x with
      | .ptr id off => match o id with
        | some (.box cs) => bif Nat.ble (off + ti.size) cs.length then K (mkv ti (cs.drop off)) [] [id] else False
        | _ => False
      | .ep id n off => match o id with
        | some (.arr z xs) => bif Nat.ble (off + ti.size) z then EX xs n fun x => K (mkv ti (x.cells.drop off)) [] [id] else False
        | _ => False
      | .rp cs => bif Nat.ble ti.size cs.length then K (mkv ti cs) [] [] else False
      | _ => False
    | none => False
  | .store t x y => match T t with
    | some ti => bif (ρ y).solid && Nat.beq (ρ y).cells.length ti.size && (ρ y).cells.all AV.one then
        match ρ x with
        | .ptr id off => match o id with
          | some (.box cs) => bif Nat.ble (off + ti.size) cs.length then K (.tup []) [(id, some (.box (setCells cs off (ρ y).cells)))] [id] else False
          | _ => False
        | .ep id n off => match o id with
          | some (.arr z xs) => bif Nat.ble (off + ti.size) z && (ρ y).cells.all AV.good then
              EX xs n fun x => K (.tup []) [(id, some (.arr z (xs.set n (putCells z x off (ρ y)))))] [id] else False
          | _ => False
        | _ => False
      else False
    | none => False
  | .nilCheck x => match ρ x with
    | .ptr id off => K (.ptr id off) [] []
    | .ep id n off => K (.ep id n off) [] []
    | .rp cs => K (.rp cs) [] []
    | .fn (.func g) a c => K (.fn (.func g) a c) [] []
    | _ => False
  | .binOp op t x y _ => bif bok T t (ρ x) then abin op (isC y) (ρ x) (ρ y) fun v => K v [] [] else False
  | .unOp .not _ x => match ρ x with
    | .b t => K (.b (!t)) [] []
    | .p q => K (.p ¬ q) [] []
    | _ => False
  | .unOp .neg _ x => match ρ x with
    | .i k n => K (.i k (k.wrap (0 - n))) [] []
    | _ => False
  | .convert s d x => match T s, T d with
    | some ts, some td => match ts.k, td.k with
      | .int _, .int k => match ρ x with
        | .i _ n => K (.i k (k.wrap n)) [] []
        | _ => False
      | .str, .str => match ρ x with
        | .s l => K (.s l) [] []
        | _ => False
      | .str, .slice e => match T e with
        | some ⟨.int .u8, _, _, _⟩ => match ρ x with
          | .s l => K (.sl 1 (l.map u8)) [] []
          | _ => False
        | _ => False
      | .slice e, .str => match T e with
        | some ⟨.int .u8, _, _, _⟩ => match cont o (ρ x) with
          | some xs => ∃ l : List UInt8, xs = l.map u8 ∧ HY (l.length ≤ maxLen) (K (.s l) [] (idsC (ρ x)))
          | none => False
        | _ => False
      | _, _ => False
    | _, _ => False
  | .makeInterface t x => match T t with
    | some ⟨.iface, _, _, _⟩ => False
    | some _ => K (.ifc t (ρ x)) [] []
    | none => False
  | .makeFunc fn a c => K (.fn fn (a.toList.map ρ) (c.toList.map ρ)) [] []
  | .makeSlice t l c => match T t with
    | some ⟨.slice e, _, _, _⟩ => match T e with
      | some te => match ρ l, ρ c with
        | .i _ n, .i _ m => OB (0 ≤ n ∧ n ≤ m ∧ m * te.bytes ≤ 140737488355328) (K (.own b) [(b, some (.arr te.size (List.replicate n.toNat te.zero)))] [])
        | _, _ => False
      | none => False
    | _ => False
  | .slice t x lo hi mx => match mx with
    | some _ => False
    | none => match T t with
      | some ⟨.str, _, _, _⟩ => match ρ x with
        | .s l => bnds ρ lo hi l.length fun a h b => K (.s (sub l a h b)) [] []
        | _ => False
      | some ⟨.slice e, _, _, _⟩ => match T e with
        | some te => match ρ x with
          | .sl z xs => bif Nat.beq z te.size then bnds ρ lo hi xs.length fun a h b => K (.sl z (sub xs a h b)) [] [] else False
          | .own id => match o id with
            | some (.arr z xs) => bif Nat.beq z te.size then bnds ρ lo hi xs.length fun a h _ => K (.ref id a (h - a)) [] [id] else False
            | _ => False
          | _ => False
        | none => False
      | _ => False
  | .fieldAddr s x f => match T s with
    | some ⟨.struct fs, _, _, _⟩ => match fs[f]? with
      | some (fo, _) => match ρ x with
        | .ptr id off => K (.ptr id (off + fo)) [] []
        | .ep id n off => K (.ep id n (off + fo)) [] []
        | .rp cs => K (.rp (cs.drop fo)) [] []
        | _ => False
      | none => False
    | _ => False
  | .field s x f => match T s with
    | some ⟨.struct fs, _, _, _⟩ => match fs[f]? with
      | some (fo, t) => match T t with
        | some ti => match ρ x with
          | .agg cs => bif Nat.ble (fo + ti.size) cs.length then K (mkv ti (cs.drop fo)) [] [] else False
          | _ => False
        | none => False
      | none => False
    | _ => False
  | .indexAddr t x ix => match T t with
    | some ⟨.slice e, _, _, _⟩ => match T e with
      | some te => match ρ x, ρ ix with
        | .sl z xs, .i _ n => bif Nat.beq z te.size then OB (0 ≤ n) (EX xs n.toNat fun x => K (.rp x.cells) [] []) else False
        | .own id, .i _ n => match o id with
          | some (.arr z xs) => bif Nat.beq z te.size then OB (0 ≤ n ∧ n < xs.length) (K (.ep id n.toNat 0) [] [id]) else False
          | _ => False
        | .ref id lo len, .i _ n => match o id with
          | some (.arr z xs) => bif Nat.beq z te.size then OB (0 ≤ n ∧ n < len ∧ lo + len ≤ xs.length) (K (.ep id (lo + n.toNat) 0) [] [id]) else False
          | _ => False
        | _, _ => False
      | none => False
    | _ => False
  | .index t x ix => match T t with
    | some ⟨.str, _, _, _⟩ => match ρ x, ρ ix with
      | .s l, .i _ n => OB (0 ≤ n) (∃ c, l[n.toNat]? = some c ∧ K (u8 c) [] [])
      | _, _ => False
    | _ => False
  | .extract x n => match ρ x with
    | .tup vs => match vs[n]? with
      | some v => K v [] []
      | none => False
    | _ => False
  | .call c => match c.callee with
    | .builtin .len => match c.args.toList, c.argTypes.toList with
      | [x], t :: _ => match T t with
        | some ⟨.str, _, _, _⟩ => match ρ x with
          | .s l => HY (l.length ≤ maxLen) (K (.i .i64 l.length) [] [])
          | _ => False
        | some ⟨.slice _, _, _, _⟩ => match cont o (ρ x) with
          | some xs => HY (xs.length ≤ maxLen) (K (.i .i64 xs.length) [] (idsC (ρ x)))
          | none => False
        | _ => False
      | _, _ => False
    | .builtin .append => match c.args.toList, c.argTypes.toList with
      | [x, y], [t, t'] => match T t, T t' with
        | some ⟨.slice e, _, _, _⟩, some ⟨.slice _, _, _, _⟩ => match T e with
          | some te => bif Nat.beq t t' then match cont o (ρ y) with
            | some ys => match ρ x with
              | .nil => OB (ys.length * te.bytes ≤ 140737488355328 ∧ (∀ v ∈ ys, v.cells.length = te.size)) (K (.own b) [(b, some (.arr te.size ys))] (idsC (ρ y)))
              | .own id => match o id with
                | some (.arr z xs) => bif Nat.beq z te.size then
                    OB ((xs.length + ys.length) * te.bytes ≤ 140737488355328 ∧ (∀ v ∈ ys, v.cells.length = te.size))
                      (K (.own b) [(id, none), (b, some (.arr te.size (xs ++ ys)))] (id :: idsC (ρ y))) else False
                | _ => False
              | .ref id lo len => match o id with
                | some (.arr z xs) => bif Nat.beq z te.size && Nat.beq lo 0 then
                    OB (len ≤ xs.length ∧ (len + ys.length) * te.bytes ≤ 140737488355328 ∧ (∀ v ∈ ys, v.cells.length = te.size))
                      (K (.own b) [(id, none), (b, some (.arr te.size (xs.take len ++ ys)))] (id :: idsC (ρ y))) else False
                | _ => False
              | _ => False
            | none => False
            else False
          | none => False
        | _, _ => False
      | _, _ => False
    | .builtin .min => match c.args.toList with
      | [x, y] => match ρ x, ρ y with
        | .i k a, .i _ d => K (.i k (if d < a then d else a)) [] []
        | _, _ => False
      | _ => False
    | .builtin .max => match c.args.toList with
      | [x, y] => match ρ x, ρ y with
        | .i k a, .i _ d => K (.i k (if a < d then d else a)) [] []
        | _, _ => False
      | _ => False
    | .value g => match ρ g with
      | .fn (.func f) a d => CK P f b (a ++ c.args.toList.map ρ ++ d) o K
      | _ => False
    | _ => False
  | _ => False

/-- What an operation comes to where its order is fixed: there two more may stand whose answer hangs on how the memory lies: a slice against nil, and cap. -/
def aopS (P : Program) (T : Tab) (b : Nat) (ρ : Operand → AV) (o : Ob) (op : Op) (K : Kont) : Prop :=
  match op with
  | .binOp .eql t x (.const (.slice none 0 0)) ty => match T t with
    | some ⟨.slice _, _, _, _⟩ => match cont o (ρ x) with
      | some xs => AL fun q : Prop => HY (q → xs = []) (K (.p q) [] [])
      | none => False
    | _ => aop P T b ρ o (.binOp .eql t x (.const (.slice none 0 0)) ty) K
  | .call ⟨.builtin .cap, args, argTypes⟩ => match args.toList, argTypes.toList with
    | [x], t :: _ => match T t with
      | some ⟨.slice _, _, _, _⟩ => match ρ x with
        | .nil => K (.i .i64 0) [] []
        | v => match cont o v with
          | some xs => AL fun k : Nat => HY (xs.length ≤ k ∧ k ≤ maxLen) (K (.i .i64 k) [] [])
          | none => False
      | _ => False
    | _, _ => False
  | .call ⟨.builtin .clear, args, argTypes⟩ => match args.toList, argTypes.toList with
    | [x], t :: _ => match T t with
      | some ⟨.slice e, _, _, _⟩ => match T e with
        | some te => match ρ x with
          | .ref id lo len => match o id with
            | some (.arr z xs) => bif Nat.beq z te.size then
                OB (lo + len ≤ xs.length) (K (.tup []) [(id, some (.arr te.size (xs.take lo ++ List.replicate len te.zero ++ xs.drop (lo + len))))] [id]) else False
            | _ => False
          | _ => False
        | none => False
      | _ => False
    | _, _ => False
  | .call ⟨.builtin .append, args, argTypes⟩ => match args.toList, argTypes.toList with
    | [x, y], [t, t'] => match T t' with
      | some ⟨.int _, _, _, _⟩ => match T t with
        | some ⟨.slice e, _, _, _⟩ => match T e with
          | some te => match ρ x, ρ y with
            | .nil, .i _ n => OB (0 ≤ n ∧ n * te.bytes ≤ 140737488355328) (K (.own b) [(b, some (.arr te.size (List.replicate n.toNat te.zero)))] [])
            | _, _ => False
          | none => False
        | _ => False
      | _ => aop P T b ρ o (.call ⟨.builtin .append, args, argTypes⟩) K
    | _, _ => False
  | .slice t x lo hi none => match ρ x with
    | .nil => match T t with
      | some ⟨.slice e, _, _, _⟩ => match T e with
        | some _ => bnds ρ lo hi 0 fun _ _ _ => K .nil [] []
        | none => False
      | _ => False
    | _ => aop P T b ρ o (.slice t x lo hi none) K
  | op => aop P T b ρ o op K

/-- A result that an operation comes to, whatever else the state holds. -/
def SemOp (P : Program) (i : Nat) (op : Oper) (ρ : Operand → AV) (ob : Ob) (nx : Nat) (v : AV) (wo : List (Nat × Option AObj)) (ro : List Nat) : Prop :=
  ∀ (f : Phi) (st : St) (a : Act) (w : World), Rel f st a w → st.nx = nx → st.u i = false → (∀ x ∈ op.op.operands.toList, st.ev x = ρ x) → (∀ id ∈ ro, st.o id = ob id) →
    ∀ (next : Act → World → Prop) (Q : Exit → Act → World → Prop), (∀ f' r w', Out f st w i v wo f' w' r → next (a.put op.dst r) w') → op.wp P a w next Q

end Go.Proofs.YtbknlijpkabcnaaGreat.K
