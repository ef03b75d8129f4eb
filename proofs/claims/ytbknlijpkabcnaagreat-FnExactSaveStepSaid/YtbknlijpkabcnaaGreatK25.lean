/- The walk again, in a form that keeps what it has computed: values, states and numbers are brought to their form before they are stored. No condition. -/
import Derived.Test.YtbknlijpkabcnaaGreatK24
namespace Go.Proofs.YtbknlijpkabcnaaGreat.K
open Go

def frcN (n : Nat) (K : Nat → Prop) : Prop := match n with
  | 0 => K 0
  | Nat.succ n => K (Nat.succ n)
theorem frcN_eq (n : Nat) (K : Nat → Prop) : frcN n K = K n := by cases n <;> rfl

def frcC (v : AV) (K : AV → Prop) : Prop := match v with
  | .own id => frcN id fun id => K (.own id)
  | .ref id lo len => frcN id fun id => K (.ref id lo len)
  | .ptr id off => frcN id fun id => frcN off fun off => K (.ptr id off)
  | .ep id n off => frcN id fun id => frcN off fun off => K (.ep id n off)
  | .b x => K (.b x)
  | .p x => K (.p x)
  | .i k x => K (.i k x)
  | .s x => K (.s x)
  | .nil => K .nil
  | .e0 => K .e0
  | .sl z xs => K (.sl z xs)
  | .rp cs => K (.rp cs)
  | .agg cs => K (.agg cs)
  | .tup cs => K (.tup cs)
  | .fn f a c => K (.fn f a c)
  | .np => K .np
  | .ni => K .ni
  | .ifc t v => K (.ifc t v)
  | .any => K .any
theorem frcC_eq (v : AV) (K : AV → Prop) : frcC v K = K v := by cases v <;> simp only [frcC, frcN_eq]

def frcL : List AV → (List AV → Prop) → Prop
  | [], K => K []
  | x :: xs, K => frcC x fun x => frcL xs fun xs => K (x :: xs)
theorem frcL_eq : ∀ (l : List AV) (K : List AV → Prop), frcL l K = K l
  | [], _ => rfl
  | x :: xs, K => by simp only [frcL, frcC_eq, frcL_eq xs]

def frcA (v : AV) (K : AV → Prop) : Prop := match v with
  | .agg cs => frcL cs fun cs => K (.agg cs)
  | .rp cs => frcL cs fun cs => K (.rp cs)
  | .fn f a c => frcL a fun a => frcL c fun c => K (.fn f a c)
  | .own id => frcN id fun id => K (.own id)
  | .ref id lo len => frcN id fun id => K (.ref id lo len)
  | .ptr id off => frcN id fun id => frcN off fun off => K (.ptr id off)
  | .ep id n off => frcN id fun id => frcN off fun off => K (.ep id n off)
  | .b x => K (.b x)
  | .p x => K (.p x)
  | .i k x => K (.i k x)
  | .s x => K (.s x)
  | .nil => K .nil
  | .e0 => K .e0
  | .sl z xs => K (.sl z xs)
  | .tup cs => K (.tup cs)
  | .np => K .np
  | .ni => K .ni
  | .ifc t v => K (.ifc t v)
  | .any => K .any
theorem frcA_eq (v : AV) (K : AV → Prop) : frcA v K = K v := by cases v <;> simp only [frcA, frcN_eq, frcL_eq]

def frcT : List AV → (List AV → Prop) → Prop
  | [], K => K []
  | x :: xs, K => frcA x fun x => frcT xs fun xs => K (x :: xs)
theorem frcT_eq : ∀ (l : List AV) (K : List AV → Prop), frcT l K = K l
  | [], _ => rfl
  | x :: xs, K => by simp only [frcT, frcA_eq, frcT_eq xs]

def frc (v : AV) (K : AV → Prop) : Prop := match v with
  | .tup cs => frcT cs fun cs => K (.tup cs)
  | v => frcA v K
theorem frc_eq (v : AV) (K : AV → Prop) : frc v K = K v := by cases v <;> simp only [frc, frcT_eq, frcA_eq]

/-- What is to be brought to a form of one's own. -/
structure RN {α : Type} (x : α) (K : α → Prop) : Prop where
  f : K x
theorem RN_eq {α : Type} (x : α) (K : α → Prop) : RN x K = K x := propext ⟨RN.f, RN.mk⟩
theorem RN.to {α : Type} {x : α} (y : α) {K : α → Prop} (e : x = y) (h : K y) : RN x K := ⟨e ▸ h⟩

def frcO (x : Option AObj) (K : Option AObj → Prop) : Prop := match x with
  | none => K none
  | some (.box cs) => frcL cs fun cs => K (some (.box cs))
  | some (.arr z xs) => frcN z fun z => RN xs fun xs => K (some (.arr z xs))
theorem frcO_eq (x : Option AObj) (K : Option AObj → Prop) : frcO x K = K x := by
  cases x with
  | none => rfl
  | some x => cases x <;> simp only [frcO, frcL_eq, frcN_eq, RN_eq]

def frcW : List (Nat × Option AObj) → (List (Nat × Option AObj) → Prop) → Prop
  | [], K => K []
  | (id, x) :: l, K => frcN id fun id => frcO x fun x => frcW l fun l => K ((id, x) :: l)
theorem frcW_eq : ∀ (l : List (Nat × Option AObj)) (K : List (Nat × Option AObj) → Prop), frcW l K = K l
  | [], _ => rfl
  | (id, x) :: l, K => by simp only [frcW, frcN_eq, frcO_eq, frcW_eq l]

/-- The value of an operation; a part of a slice is to be named. -/
def frcR (op : Op) (v : AV) (K : AV → Prop) : Prop := match op with
  | .slice _ _ _ _ _ => (match v with
    | .sl z xs => frcN z fun z => RN xs fun xs => K (.sl z xs)
    | v => frc v K)
  | _ => frc v K
theorem frcR_eq (op : Op) (v : AV) (K : AV → Prop) : frcR op v K = K v := by
  unfold frcR
  split
  · split <;> simp only [frcN_eq, RN_eq, frc_eq]
  · exact frc_eq v K

def updF : List (Nat × Option AObj) → Ob → (Ob → Prop) → Prop
  | [], o, K => K o
  | (id, x) :: l, o, K => updF l (fun n => bif Nat.beq n id then x else o n) K
theorem updF_eq : ∀ (l : List (Nat × Option AObj)) (o : Ob) (K : Ob → Prop), updF l o K = K (updO l o)
  | [], _, _ => rfl
  | (id, x) :: l, o, K => by simp only [updF, updO, updF_eq l]

def appF (st : St) (i : Nat) (dst : Option Nat) (v : AV) (wo : List (Nat × Option AObj)) (K : St → Prop) : Prop :=
  match st with
  | ⟨t, o, nx, u, nt, c⟩ => updF wo o fun o => match dst with
    | none => K ⟨t, o, nx, fun n => bif Nat.beq n i then true else u n, nt, c⟩
    | some d => K ⟨putT d v t, o, nx, fun n => bif Nat.beq n i then true else u n, nt, c⟩
theorem appF_eq (st : St) (i : Nat) (dst : Option Nat) (v : AV) (wo : List (Nat × Option AObj)) (K : St → Prop) : appF st i dst v wo K = K (st.app i dst v wo) := by
  cases st; cases dst <;> simp only [appF, updF_eq] <;> rfl

/-- The cells of a struct with parts put in, each time brought to their form. -/
def fillF (T : Tab) (fs : List (Nat × Nat)) : List AV → List (Nat × AV) → (Option (List AV) → Prop) → Prop
  | cs, [], K => K (some cs)
  | cs, (i, v) :: r, K => match fs[i]? with
    | some (off, t) => match T t with
      | some ti => bif v.solid && Nat.beq v.cells.length ti.size && Nat.ble (off + ti.size) cs.length then frcL (setCells cs off v.cells) fun cs => fillF T fs cs r K else K none
      | none => K none
    | none => K none
theorem fillF_eq (T : Tab) (fs : List (Nat × Nat)) : ∀ (ps : List (Nat × AV)) (cs : List AV) (K : Option (List AV) → Prop), fillF T fs cs ps K = K (fillA T fs cs ps)
  | [], _, _ => rfl
  | (i, v) :: r, cs, K => by
    simp only [fillF, fillA]
    cases fs[i]? with
    | none => rfl
    | some q =>
      obtain ⟨off, t⟩ := q
      simp only
      cases T t with
      | none => rfl
      | some ti =>
        simp only
        cases v.solid && Nat.beq v.cells.length ti.size && Nat.ble (off + ti.size) cs.length
        · rfl
        · simp only [cond_true, frcL_eq]; exact fillF_eq T fs r _ K
def kBuild (K : Kont) (r : Option (List AV)) : Prop := match r with
  | some cs => K (.agg cs) [] []
  | none => False
def aopSF (P : Program) (T : Tab) (b : Nat) (ρ : Operand → AV) (o : Ob) (op : Op) (K : Kont) : Prop :=
  match op with
  | .build t ps => match T t with
    | some ⟨.struct fs, _, _, z⟩ => fillF T fs z.cells (ps.toList.map fun q => (q.1, ρ q.2)) (kBuild K)
    | _ => False
  | op => aopS P T b ρ o op K
def aopF (P : Program) (T : Tab) (b : Nat) (ρ : Operand → AV) (o : Ob) (op : Op) (K : Kont) : Prop :=
  match op with
  | .build t ps => match T t with
    | some ⟨.struct fs, _, _, z⟩ => fillF T fs z.cells (ps.toList.map fun q => (q.1, ρ q.2)) (kBuild K)
    | _ => False
  | op => aop P T b ρ o op K
theorem build_eq (P : Program) (T : Tab) (b : Nat) (ρ : Operand → AV) (o : Ob) (t : Nat) (ps : Array (Nat × Operand)) (K : Kont) : aopF P T b ρ o (.build t ps) K = aop P T b ρ o (.build t ps) K := by
  simp only [aopF, aop, fillF_eq, kBuild]
  rfl
theorem aopF_eq (P : Program) (T : Tab) (b : Nat) (ρ : Operand → AV) (o : Ob) (op : Op) (K : Kont) : aopF P T b ρ o op K = aop P T b ρ o op K := by
  cases op <;> first | exact build_eq .. | rfl
theorem aopSF_eq (P : Program) (T : Tab) (b : Nat) (ρ : Operand → AV) (o : Ob) (op : Op) (K : Kont) : aopSF P T b ρ o op K = aopS P T b ρ o op K := by
  cases op <;> first | rfl | (show aopF P T b ρ o (.build _ _) K = aopS P T b ρ o (.build _ _) K; rw [build_eq]; rfl)

/-- One operation of a region, and what comes behind it. -/
def stepF (P : Program) (T : Tab) (ops : List Oper) (nx : Nat) (o : Oper) (rest : Nat → St → (St → Prop) → Prop) (i : Nat) (st : St) (K : St → Prop) : Prop :=
  DST o st (GDK ops o st
    (fun st => aopSF P T (nx + 16 * i) st.ev st.o o.op fun v wo _ => frcR o.op v fun v => frcW wo fun wo => appF st i o.dst v wo fun st => frcN (Nat.succ i) fun i => rest i st K)
    (fun st => appF st i o.dst (.tup []) [] fun st => frcN (Nat.succ i) fun i => rest i st K))
def doneF (_ : Nat) (st : St) (K : St → Prop) : Prop := K st

/-- The operations of a region, in the order of the text. -/
noncomputable def aopsF (P : Program) (T : Tab) (ops : List Oper) (nx : Nat) (os : List Oper) : Nat → St → (St → Prop) → Prop :=
  @List.rec Oper (fun _ => Nat → St → (St → Prop) → Prop) doneF (fun o _ rest => stepF P T ops nx o rest) os
theorem aopsF_eq {P : Program} {T : Tab} {ops : List Oper} {nx : Nat} : ∀ (os : List Oper) (i : Nat) (st : St) (K : St → Prop), aopsF P T ops nx os i st K = aops P T ops nx i os st K
  | [], _, _, _ => rfl
  | o :: os, i, st, K => by
    show stepF P T ops nx o (aopsF P T ops nx os) i st K = _
    simp only [stepF, aops, aopSF_eq, frcR_eq, frcW_eq, appF_eq, frcN_eq, aopsF_eq os]

def stepDF (P : Program) (T : Tab) (ops : List Oper) (nx : Nat) (o : Oper) (rest : Nat → St → List (Nat × FP) → (St → Prop) → Prop) (i : Nat) (st : St) (log : List (Nat × FP)) (K : St → Prop) : Prop :=
  DST o st (GD ops o st
    (aopF P T (nx + 16 * i) st.ev st.o o.op fun v wo ro => frcR o.op v fun v => frcW wo fun wo => appF st i o.dst v wo fun st => frcN (Nat.succ i) fun i' =>
      rest i' st ((i, ⟨tmpsOf ops o, o.dst, ro, wo.map (·.1)⟩) :: log) K)
    (appF st i o.dst (.tup []) [] fun st => frcN (Nat.succ i) fun i' => rest i' st ((i, ⟨tmpsOf ops o, o.dst, [], []⟩) :: log) K))
def doneDF (ops : List Oper) (_ : Nat) (st : St) (log : List (Nat × FP)) (K : St → Prop) : Prop := OB ((ordered ops log && backB 0 ops) = true) (K st)

noncomputable def aopsDF (P : Program) (T : Tab) (ops : List Oper) (nx : Nat) (os : List Oper) : Nat → St → List (Nat × FP) → (St → Prop) → Prop :=
  @List.rec Oper (fun _ => Nat → St → List (Nat × FP) → (St → Prop) → Prop) (doneDF ops) (fun o _ rest => stepDF P T ops nx o rest) os
theorem aopsDF_eq {P : Program} {T : Tab} {ops : List Oper} {nx : Nat} : ∀ (os : List Oper) (i : Nat) (st : St) (log : List (Nat × FP)) (K : St → Prop), aopsDF P T ops nx os i st log K = aopsD P T ops nx i os st log K
  | [], _, _, _, _ => rfl
  | o :: os, i, st, log, K => by
    show stepDF P T ops nx o (aopsDF P T ops nx os) i st log K = _
    simp only [stepDF, aopsD, aopF_eq, frcR_eq, frcW_eq, appF_eq, frcN_eq, aopsDF_eq os]

def bumpF (n : Nat) (st : St) (K : St → Prop) : Prop := match st with
  | ⟨t, o, nx, _, nt, c⟩ => frcN (nx + 16 * n) fun nx => K ⟨t, o, nx, fun _ => false, nt, c⟩
theorem bumpF_eq (n : Nat) (st : St) (K : St → Prop) : bumpF n st K = K (st.bump n) := by
  cases st; simp only [bumpF, frcN_eq]; rfl

def kNrm (K : Ex → St → Prop) (st : St) : Prop := K .nrm st
def kSeq (y : St → (Ex → St → Prop) → Prop) (K : Ex → St → Prop) (e : Ex) (st' : St) : Prop := match e with
  | .nrm => y st' K
  | e => K e st'
def kBlk (id : Nat) (K : Ex → St → Prop) (e : Ex) (st' : St) : Prop := match e with
  | .exit j => bif Nat.beq j id then K .nrm st' else K (.exit j) st'
  | e => K e st'
def fReg (P : Program) (T : Tab) (ops : List Oper) (draw : Bool) (st : St) (K : Ex → St → Prop) : Prop :=
  match st with
  | ⟨t, o, nx, u, nt, c⟩ => match draw with
    | true => aopsDF P T ops nx ops 0 ⟨t, o, nx, u, nt, c⟩ [] fun st' => bumpF ops.length st' (kNrm K)
    | false => aopsF P T ops nx ops 0 ⟨t, o, nx, u, nt, c⟩ fun st' => bumpF ops.length st' (kNrm K)
def fRegA (P : Program) (T : Tab) (ops : Array Oper) (draw : Bool) (st : St) (K : Ex → St → Prop) : Prop := match ops with
  | ⟨ops⟩ => fReg P T ops draw st K
theorem fReg_eq (P : Program) (T : Tab) (ops : Array Oper) (draw : Bool) (st : St) (K : Ex → St → Prop) : fRegA P T ops draw st K = areg P T ops draw st fun st' => K .nrm st' := by
  cases st; cases ops
  unfold areg fRegA fReg
  cases draw <;> simp only [aopsF_eq, aopsDF_eq, bumpF_eq, kNrm] <;> rfl
def fSkip (st : St) (K : Ex → St → Prop) : Prop := K .nrm st
def fSeq (x y : St → (Ex → St → Prop) → Prop) (st : St) (K : Ex → St → Prop) : Prop := x st (kSeq y K)
def fCond (c : Operand) (x y : St → (Ex → St → Prop) → Prop) (st : St) (K : Ex → St → Prop) : Prop := match st.ev c with
    | .b t => BS t (x st K) (y st K)
    | .p q => PS q (x st K) (y st K)
    | _ => False
def fBlk (id : Nat) (x : St → (Ex → St → Prop) → Prop) (st : St) (K : Ex → St → Prop) : Prop := x st (kBlk id K)
def fLoop (x : St → (Ex → St → Prop) → Prop) (st : St) (K : Ex → St → Prop) : Prop := LP x st K
def fExit (id : Nat) (st : St) (K : Ex → St → Prop) : Prop := K (.exit id) st
def fRet (st : St) (K : Ex → St → Prop) : Prop := K .ret st
def fNo (_ : St) (_ : Ex → St → Prop) : Prop := False

/-- What a body does. -/
noncomputable def awpF (P : Program) (T : Tab) (c : Code) : St → (Ex → St → Prop) → Prop :=
  @Code.rec (fun _ => St → (Ex → St → Prop) → Prop)
    fSkip (fun _ ops draw => fRegA P T ops draw) (fun _ _ x y => fSeq x y) (fun c _ _ x y => fCond c x y)
    (fun id _ x => fBlk id x) (fun _ x => fLoop x) (fun _ _ _ _ _ _ => fNo) (fun id => fExit id) (fun _ _ => fNo) (fun _ => fNo) (fun _ => fNo) fRet (fun _ => fNo) c
theorem awpF_eq {P : Program} {T : Tab} : ∀ (c : Code), awpF P T c = awp P T c := by
  intro c
  induction c with
  | seq x y ihx ihy =>
    show fSeq (awpF P T x) (awpF P T y) = _
    rw [ihx, ihy]; funext st K; simp only [awp, fSeq]; congr 1
  | cond c x y ihx ihy =>
    show fCond c (awpF P T x) (awpF P T y) = _
    rw [ihx, ihy]; funext st K; simp only [awp, fCond]; rfl
  | block id x ih =>
    show fBlk id (awpF P T x) = _
    rw [ih]; funext st K; simp only [awp, fBlk]; congr 1
  | loop x ih =>
    show fLoop (awpF P T x) = _
    rw [ih]; funext st K; simp only [awp, fLoop]
  | region id ops draw => funext st K; simp only [awp]; exact fReg_eq P T ops draw st K
  | _ => rfl

/-- A function hands back. -/
def RETF (T : Tab) (rs : Array ResultVar) (ret : AV) (co' : List (Option AObj)) (e : Ex) (st : St) : Prop :=
  match e with
  | .exit _ => False
  | _ => match resV T st rs.toList with
    | some vs => frcT vs fun vs => ∃ m : List Src, (keepB 0 st.c m && nodupB (liveIds m co')) = true ∧ passO m st.o m co' ∧ leV m st.o (one vs) ret
    | none => False
theorem RETF_eq : RETF = RET := by
  funext T rs ret co' e st
  cases e <;> simp only [RETF, RET, frcT_eq] <;> rfl

/-- A contract, out of a body. -/
theorem con_of_awpF {P : Program} {T : Tab} (hT : T.Ok P) (hm : P.follows .mixedOrders = true) {f : FuncId} {fn : Func} {body : Code} {args : List AV} {co : List AObj} {ret : AV} {co' : List (Option AObj)}
    (hf : P.funcs[f]? = some fn) (hb : fn.body = some body) (hn : (fn.name == "runtime.NumGoroutine") = false)
    (h : frcN (args.length + (fn.ntmps - args.length)) fun nt => awpF P T body (St.init args co nt) (RETF T fn.results ret co')) : Con P f args co ret co' := by
  rw [frcN_eq, awpF_eq, RETF_eq] at h
  exact con_of_awp hT hm hf hb hn h

end Go.Proofs.YtbknlijpkabcnaaGreat.K
