/- Bodies: what a body does to abstract states; loops by states that they come back to; what a function hands back. No condition. -/
import Derived.Test.YtbknlijpkabcnaaGreatK19
namespace Go.Proofs.YtbknlijpkabcnaaGreat.K
open Go

inductive Ex where
  | nrm
  | exit (id : Nat)
  | ret

/-- Where an object of a state that is aimed at comes from. -/
inductive Src where
  | no
  | id (n : Nat)
  | pre (n k : Nat)
  | nl

/-- A state by a list of its temporaries and its objects. -/
structure LS where
  tl : List (Nat × AV)
  ol : List (Option AObj)

def look (n : Nat) : List (Nat × AV) → AV
  | [] => .any
  | (k, v) :: l => bif Nat.beq k n then v else look n l

def LS.st (L : LS) (nt c : Nat) : St := { t := fun n => look n L.tl, o := fun n => (L.ol[n]?).join, nx := L.ol.length, u := fun _ => false, nt := nt, c := c }

def srcOf (m : List Src) (j : Nat) : Src := match m[j]? with
  | some s => s
  | none => .no

def Src.ids : Src → List Nat
  | .id n => [n]
  | .pre n _ => [n]
  | _ => []

def kk (k k' : IntKind) (q : Prop) : Prop := if k = k' then q else False

/-- A cell that is held, against a cell that is aimed at. -/
def leC (m : List Src) (o : Ob) (x y : AV) : Prop :=
  match y with
  | .any => True
  | .b b => match x with
    | .b a => a = b
    | .p q => q ↔ b = true
    | _ => False
  | .p q' => match x with
    | .b a => a = true ↔ q'
    | .p q => q ↔ q'
    | _ => False
  | .i k' b => match x with
    | .i k a => kk k k' (a = b)
    | _ => False
  | .s b => match x with
    | .s a => a = b
    | _ => False
  | .nil => match x with
    | .nil => True
    | _ => False
  | .e0 => match x with
    | .e0 => True
    | .nil => True
    | _ => False
  | .sl z' ys => match x with
    | .nil => bif Nat.blt 0 z' then ys = [] else False
    | .e0 => bif Nat.blt 0 z' then ys = [] else False
    | .sl z xs => bif Nat.beq z z' then xs = ys else False
    | .own n => match o n with
      | some (.arr z xs) => bif Nat.beq z z' && !hasN n (m.flatMap Src.ids) then xs = ys else False
      | _ => False
    | .ref n lo len => match o n with
      | some (.arr z xs) => bif Nat.beq z z' && !hasN n (m.flatMap Src.ids) then (xs.drop lo).take len = ys else False
      | _ => False
    | _ => False
  | .own j => match x with
    | .nil => match srcOf m j with
      | .nl => True
      | _ => False
    | .own n => match srcOf m j with
      | .id n' => bif Nat.beq n' n then True else False
      | _ => False
    | .ref n lo len => match srcOf m j with
      | .pre n' k => bif Nat.beq n' n && Nat.beq lo 0 then len = k else False
      | _ => False
    | _ => False
  | .ref j lo' len' => match x with
    | .ref n lo len => match srcOf m j with
      | .id n' => bif Nat.beq n' n then lo = lo' ∧ len = len' else False
      | _ => False
    | _ => False
  | .ptr j off' => match x with
    | .ptr n off => match srcOf m j with
      | .id n' => bif Nat.beq n' n && Nat.beq off off' then True else False
      | _ => False
    | _ => False
  | .ep j i' off' => match x with
    | .ep n i off => match srcOf m j with
      | .id n' => bif Nat.beq n' n && Nat.beq off off' then i = i' else False
      | _ => False
    | _ => False
  | .rp ds => match x with
    | .rp cs => cs = ds
    | _ => False
  | .np => match x with
    | .np => True
    | _ => False
  | .ni => match x with
    | .ni => True
    | _ => False
  | .ifc t' v' => match x with
    | .ifc t v => bif Nat.beq t t' && v'.pure then v = v' else False
    | _ => False
  | .agg _ => False
  | .tup _ => False
  | .fn _ _ _ => False

def leL (m : List Src) (o : Ob) : List AV → List AV → Prop
  | [], [] => True
  | x :: xs, y :: ys => leC m o x y ∧ leL m o xs ys
  | _, _ => False

def leA (m : List Src) (o : Ob) (x y : AV) : Prop :=
  match y with
  | .agg ds => match x with
    | .agg cs => leL m o cs ds
    | _ => False
  | .tup [] => match x with
    | .tup [] => True
    | _ => False
  | .fn f a c => match x with
    | .fn g b d => bif a.all AV.pure && c.all AV.pure then f = g ∧ b = a ∧ d = c else False
    | _ => False
  | y => leC m o x y

def leT (m : List Src) (o : Ob) : List AV → List AV → Prop
  | [], [] => True
  | x :: xs, y :: ys => leA m o x y ∧ leT m o xs ys
  | _, _ => False

/-- What is handed back, against what the contract says. -/
def leV (m : List Src) (o : Ob) (x y : AV) : Prop :=
  match y with
  | .tup (v :: vs) => match x with
    | .tup us => leT m o us (v :: vs)
    | _ => False
  | y => leA m o x y

def passT (m : List Src) (st : St) : List (Nat × AV) → Prop
  | [] => True
  | (k, v) :: l => leA m st.o (st.t k) v ∧ passT m st l

def passO (m : List Src) (o : Ob) : List Src → List (Option AObj) → Prop
  | [], [] => True
  | s :: ss, ob :: obs => (match ob with
      | none => True
      | some (.box ds) => match s with
        | .id n => match o n with
          | some (.box cs) => leL m o cs ds
          | _ => False
        | _ => False
      | some (.arr z' ys) => match s with
        | .id n => match o n with
          | some (.arr z xs) => bif Nat.beq z z' then xs = ys else False
          | _ => False
        | .pre n k => match o n with
          | some (.arr z xs) => bif Nat.beq z z' then k ≤ xs.length ∧ xs.take k = ys else False
          | _ => False
        | .nl => bif Nat.blt 0 z' then ys = [] else False
        | .no => False) ∧ passO m o ss obs
  | _, _ => False

/-- The objects that were handed over keep their names. -/
def keepB : Nat → Nat → List Src → Bool
  | _, 0, _ => true
  | j, c + 1, s :: ss => (match s with | .id n => Nat.beq n j | _ => false) && keepB (j + 1) c ss
  | _, _ + 1, [] => false

def nodupB : List Nat → Bool
  | [] => true
  | n :: l => !hasN n l && nodupB l

def liveIds : List Src → List (Option AObj) → List Nat
  | s :: ss, some _ :: obs => s.ids ++ liveIds ss obs
  | _ :: ss, none :: obs => liveIds ss obs
  | _, _ => []

/-- A state may be taken for another one, which tells less. -/
def Pass (st : St) (L : LS) : Prop := ∃ m : List Src, (keepB 0 st.c m && nodupB (liveIds m L.ol)) = true ∧ passO m st.o m L.ol ∧ passT m st L.tl

/-- A loop: a family of states that a round comes back to, and a number that goes down. -/
structure LP (B : St → (Ex → St → Prop) → Prop) (st : St) (K : Ex → St → Prop) : Prop where
  ex : ∃ (ι : Type) (I : ι → LS) (μ : ι → Nat) (x : ι), Pass st (I x) ∧
    ∀ x, B ((I x).st st.nt st.c) fun e st' => match e with
      | .nrm => ∃ y, μ y < μ x ∧ Pass st' (I y)
      | e => K e st'

/-- What a body does. -/
def awp (P : Program) (T : Tab) : Code → St → (Ex → St → Prop) → Prop
  | .skip, st, K => K .nrm st
  | .region _ ops draw, st, K => areg P T ops draw st fun st' => K .nrm st'
  | .seq x y, st, K => awp P T x st fun e st' => match e with
    | .nrm => awp P T y st' K
    | e => K e st'
  | .cond c x y, st, K => match st.ev c with
    | .b t => BS t (awp P T x st K) (awp P T y st K)
    | .p q => PS q (awp P T x st K) (awp P T y st K)
    | _ => False
  | .block id x, st, K => awp P T x st fun e st' => match e with
    | .exit j => bif Nat.beq j id then K .nrm st' else K (.exit j) st'
    | e => K e st'
  | .loop x, st, K => LP (awp P T x) st K
  | .exit id, st, K => K (.exit id) st
  | .ret, st, K => K .ret st
  | _, _, _ => False

/-- What the results read as. -/
def resV (T : Tab) (st : St) : List ResultVar → Option (List AV)
  | [] => some []
  | .tmp t :: l => (resV T st l).map (st.t t :: ·)
  | .cell a ty :: l => match st.t a, T ty with
    | .ptr id off, some ti => match st.o id with
      | some (.box cs) => bif Nat.ble (off + ti.size) cs.length then (resV T st l).map (mkv ti (cs.drop off) :: ·) else none
      | _ => none
    | _, _ => none

def one : List AV → AV
  | [v] => v
  | vs => .tup vs

/-- A function hands back. -/
def RET (T : Tab) (rs : Array ResultVar) (ret : AV) (co' : List (Option AObj)) (e : Ex) (st : St) : Prop :=
  match e with
  | .exit _ => False
  | _ => match resV T st rs.toList with
    | some vs => ∃ m : List Src, (keepB 0 st.c m && nodupB (liveIds m co')) = true ∧ passO m st.o m co' ∧ leV m st.o (one vs) ret
    | none => False

def St.init (args : List AV) (co : List AObj) (nt : Nat) : St :=
  { t := fun n => match args[n]? with | some v => v | none => .tup [], o := fun j => co[j]?, nx := co.length, u := fun _ => false, nt := nt, c := co.length }

end Go.Proofs.YtbknlijpkabcnaaGreat.K
