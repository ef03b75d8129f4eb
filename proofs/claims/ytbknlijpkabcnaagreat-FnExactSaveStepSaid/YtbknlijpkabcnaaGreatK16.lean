/- Regions: in the order of the text, and in whatever order. No condition. -/
import Derived.Test.YtbknlijpkabcnaaGreatK15
namespace Go.Proofs.YtbknlijpkabcnaaGreat.K
open Go

/-- Where an operation hangs on another one's answer. -/
def gtmp (ops : List Oper) (o : Oper) : Option (Option Nat × Bool) := match o.guard with
  | none => none
  | some (j, want) => some (match ops[j]? with | some p => p.dst | none => none, want)

/-- An operation is done, or is not. -/
def GD (ops : List Oper) (o : Oper) (st : St) (run skip : Prop) : Prop :=
  match gtmp ops o with
  | none => run
  | some (none, _) => skip
  | some (some d, want) => match st.t d with
    | .b x => BS x (bif want then run else skip) (bif want then skip else run)
    | .p q => PS q (bif want then run else skip) (bif want then skip else run)
    | .tup [] => skip
    | _ => False

def DST (o : Oper) (st : St) (X : Prop) : Prop := match o.dst with
  | none => X
  | some d => bif Nat.blt d st.nt then X else False

/-- A temporary is known to be true, or false. -/
def St.set (st : St) (d : Nat) (b : Bool) : St := { st with t := putT d (.b b) st.t }

/-- An operation is done, or is not; what is learnt of the temporary that it hangs on is kept. -/
def GDK (ops : List Oper) (o : Oper) (st : St) (run skip : St → Prop) : Prop :=
  match gtmp ops o with
  | none => run st
  | some (none, _) => skip st
  | some (some d, want) => match st.t d with
    | .b x => BS x (bif want then run st else skip st) (bif want then skip st else run st)
    | .p q => PS q (bif want then run (st.set d true) else skip (st.set d true)) (bif want then skip (st.set d false) else run (st.set d false))
    | .tup [] => skip st
    | _ => False

/-- The operations of a region, in the order of the text. -/
def aops (P : Program) (T : Tab) (ops : List Oper) (nx : Nat) : Nat → List Oper → St → (St → Prop) → Prop
  | _, [], st, K => K st
  | i, o :: os, st, K =>
    DST o st (GDK ops o st
      (fun st => aopS P T (nx + 16 * i) st.ev st.o o.op fun v wo _ => aops P T ops nx (i + 1) os (st.app i o.dst v wo) K)
      (fun st => aops P T ops nx (i + 1) os (st.app i o.dst (.tup []) []) K))

/-- What an operation looks at, and what it turns. -/
structure FP where
  rt : List Nat
  wt : Option Nat
  ro : List Nat
  wo : List Nat

def tmpsOf (ops : List Oper) (o : Oper) : List Nat :=
  (o.op.operands.toList.filterMap fun | .tmp t => some t | _ => none) ++ (match gtmp ops o with | some (some d, _) => [d] | _ => [])

def hasN (n : Nat) (l : List Nat) : Bool := l.any fun k => Nat.beq k n
def disj (l m : List Nat) : Bool := l.all fun n => !hasN n m
def FP.indep (x y : FP) : Bool :=
  disj x.wt.toList (y.rt ++ y.wt.toList) && disj y.wt.toList x.rt && disj x.wo (y.ro ++ y.wo) && disj y.wo x.ro

/-- Does operation j stand before operation i, by the edges? -/
def anc (ops : List Oper) : Nat → Nat → Nat → Bool
  | 0, _, _ => false
  | n + 1, i, j => match ops[i]? with
    | none => false
    | some o => o.after.toList.any fun e => Region.binds .any e && (Nat.beq e.on j || anc ops n e.on j)

/-- All that does not stand apart is ordered. -/
def orderedBefore (ops : List Oper) (i : Nat) (y : FP) : List (Nat × FP) → Bool
  | [] => true
  | (j, x) :: l => (x.indep y || anc ops ops.length i j) && orderedBefore ops i y l
def ordered (ops : List Oper) : List (Nat × FP) → Bool   -- the last one first
  | [] => true
  | (i, y) :: l => orderedBefore ops i y l && ordered ops l

/-- The edges lead back. -/
def backB : Nat → List Oper → Bool
  | _, [] => true
  | i, o :: os => (o.after.toList.all fun e => !Region.binds .any e || Nat.blt e.on i) && backB (i + 1) os

/-- The operations of a region whose order is open; what each looks at is kept. -/
def aopsD (P : Program) (T : Tab) (ops : List Oper) (nx : Nat) : Nat → List Oper → St → List (Nat × FP) → (St → Prop) → Prop
  | _, [], st, log, K => OB ((ordered ops log && backB 0 ops) = true) (K st)
  | i, o :: os, st, log, K =>
    DST o st (GD ops o st
      (aop P T (nx + 16 * i) st.ev st.o o.op fun v wo ro => aopsD P T ops nx (i + 1) os (st.app i o.dst v wo) ((i, ⟨tmpsOf ops o, o.dst, ro, wo.map (·.1)⟩) :: log) K)
      (aopsD P T ops nx (i + 1) os (st.app i o.dst (.tup []) []) ((i, ⟨tmpsOf ops o, o.dst, [], []⟩) :: log) K))

/-- Behind a region its names are used. -/
def St.bump (st : St) (n : Nat) : St := { st with nx := st.nx + 16 * n, u := fun _ => false }

def areg (P : Program) (T : Tab) (ops : Array Oper) (draw : Bool) (st : St) (K : St → Prop) : Prop :=
  bif draw then aopsD P T ops.toList st.nx 0 ops.toList st [] fun st' => K (st'.bump ops.toList.length)
  else aops P T ops.toList st.nx 0 ops.toList st fun st' => K (st'.bump ops.toList.length)

end Go.Proofs.YtbknlijpkabcnaaGreat.K
