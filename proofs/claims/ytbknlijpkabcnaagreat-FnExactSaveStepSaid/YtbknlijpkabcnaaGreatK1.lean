/- The abstract values and states that the proofs of this seat compute with, and what it means that a machine state is read as one of them. No condition. -/
import Derived.Calls
import Derived.Orders
import Derived.Laws.AppendOwn
import Derived.Laws.BytesString
import Derived.Laws.IdiomStrings
namespace Go.Proofs.YtbknlijpkabcnaaGreat.K
open Go

/-- What a machine value is read as: numbers, flags, texts as they are; a slice that nobody writes as the list of its elements; what is written as the name of an object. -/
inductive AV where
  | b (x : Bool)
  | p (q : Prop)
  | i (k : IntKind) (n : Int)
  | s (x : List UInt8)
  | nil
  | e0
  | sl (z : Nat) (xs : List AV)
  | own (id : Nat)
  | ref (id lo len : Nat)
  | ptr (id off : Nat)
  | ep (id idx off : Nat)
  | rp (cs : List AV)
  | agg (cs : List AV)
  | tup (vs : List AV)
  | fn (f : Fn) (first cap : List AV)
  | np
  | ni
  | ifc (t : Nat) (v : AV)
  | any

instance : Inhabited AV := ⟨.any⟩

def AV.cells : AV → List AV
  | .agg cs => cs
  | v => [v]

/-- A cell that names no object. -/
def AV.pure : AV → Bool
  | .own _ => false
  | .ref _ _ _ => false
  | .ptr _ _ => false
  | .ep _ _ _ => false
  | .agg _ => false
  | .tup _ => false
  | .fn _ _ _ => false
  | .ifc _ _ => false
  | _ => true

/-- A cell of an element. -/
def AV.good : AV → Bool
  | .own _ => false
  | .ref _ _ _ => false
  | .ptr _ _ => false
  | .ep _ _ _ => false
  | .agg _ => false
  | .tup _ => false
  | .fn _ _ _ => false
  | .ifc _ _ => false
  | .any => false
  | _ => true

theorem AV.good.pure {c : AV} (h : c.good = true) : c.pure = true := by cases c <;> first | rfl | simp [AV.good] at h

/-- A cell that may be stored. -/
def AV.one : AV → Bool
  | .agg _ => false
  | .tup _ => false
  | .any => false
  | _ => true

/-- What may be boxed: its cells are known. -/
def AV.solid : AV → Bool
  | .any => false
  | .tup _ => false
  | _ => true

def u8 (c : UInt8) : AV := .i .u8 c.toNat

inductive AObj where
  | box (cs : List AV)
  | arr (z : Nat) (xs : List AV)

structure Loc where
  blk : Option Nat
  cap : Nat
  z : Nat
  len : Nat

/-- Where the objects lie; and the blocks that others write. -/
structure Phi where
  loc : Nat → Option Loc
  x : Nat → Prop
instance : CoeFun Phi (fun _ => Nat → Option Loc) := ⟨Phi.loc⟩
abbrev Ob := Nat → Option AObj

structure Phi.le (f g : Phi) : Prop where
  loc : ∀ id l, f id = some l → g id = some l
  x : g.x = f.x
theorem Phi.le_refl (f : Phi) : f.le f := ⟨fun _ _ h => h, rfl⟩
theorem Phi.le.trans {f g h : Phi} (a : f.le g) (b : g.le h) : f.le h := ⟨fun id l e => b.loc id l (a.loc id l e), b.x.trans a.x⟩

/-- The blocks of the live objects. -/
def live (f : Phi) (o : Ob) (g : Nat) : Prop := ∃ id ob l, o id = some ob ∧ f id = some l ∧ l.blk = some g
/-- The blocks that somebody writes. -/
def owns (f : Phi) (o : Ob) (g : Nat) : Prop := live f o g ∨ f.x g

/-- In a world, with the objects' places and the blocks that are owned, a machine value is read as an abstract one. -/
inductive R (w : World) (f : Phi) (own : Nat → Prop) : Value → AV → Prop
  | any (v : Value) : R w f own v .any
  | b (x : Bool) : R w f own (.bool x) (.b x)
  | p (x : Bool) (q : Prop) (h : x = true ↔ q) : R w f own (.bool x) (.p q)
  | i (k : IntKind) (n : Int) : R w f own (.int k n) (.i k n)
  | s (x : List UInt8) (h : x.length ≤ maxLen) : R w f own (.string ⟨x.toArray⟩) (.s x)
  | nil : R w f own (.slice none 0 0) .nil
  | e0 (ad : Option Addr) : R w f own (.slice ad 0 0) .e0
  | sl (ad : Option Addr) (z c : Nat) (xs : List AV) (val : Nat → Value) (h0 : 0 < z) (hc : xs.length ≤ c) (hm : c ≤ maxLen)
      (hz : ∀ x ∈ xs, x.cells.length = z) (hp : ∀ x ∈ xs, ∀ c ∈ x.cells, c.good = true)
      (hcell : ∀ k, k < xs.length * z → ∃ a, ad = some a ∧ ¬ own a.block ∧ w.cell? (a.add k) = some (val k))
      (hR : ∀ (j i : Nat) (x c : AV), xs[j]? = some x → x.cells[i]? = some c → R w f own (val (j * z + i)) c) :
      R w f own (.slice ad xs.length c) (.sl z xs)
  | own0 (id z : Nat) (h : f id = some ⟨none, 0, z, 0⟩) : R w f own (.slice none 0 0) (.own id)
  | own (id g cap z n : Nat) (h : f id = some ⟨some g, cap, z, n⟩) : R w f own (.slice (some ⟨g, 0, none⟩) n cap) (.own id)
  | ref0 (id z : Nat) (h : f id = some ⟨none, 0, z, 0⟩) : R w f own (.slice none 0 0) (.ref id 0 0)
  | ref (id lo len g cap z n : Nat) (ad : Addr) (h : f id = some ⟨some g, cap, z, n⟩) (hl : lo + len ≤ n)
      (hb : lo < cap ∨ lo = 0 → ad = ⟨g, lo * z, none⟩) : R w f own (.slice (some ad) len (cap - lo)) (.ref id lo len)
  | ptr (id off g cap z n : Nat) (h : f id = some ⟨some g, cap, z, n⟩) : R w f own (.pointer (some ⟨g, off, none⟩)) (.ptr id off)
  | ep (id idx off g cap z n : Nat) (h : f id = some ⟨some g, cap, z, n⟩) :
      R w f own (.pointer (some ⟨g, idx * z + off, none⟩)) (.ep id idx off)
  | rp (a : Addr) (cs : List AV) (val : Nat → Value) (hp : ∀ c ∈ cs, c.pure = true)
      (hcell : ∀ k, k < cs.length → ¬ own a.block ∧ w.cell? (a.add k) = some (val k))
      (hR : ∀ (k : Nat) (c : AV), cs[k]? = some c → R w f own (val k) c) : R w f own (.pointer (some a)) (.rp cs)
  | agg (vs : List Value) (cs : List AV) (hl : vs.length = cs.length)
      (hR : ∀ (k : Nat) (v : Value) (c : AV), vs[k]? = some v → cs[k]? = some c → R w f own v c) : R w f own (.agg vs.toArray) (.agg cs)
  | tup (vs : List Value) (cs : List AV) (hl : vs.length = cs.length)
      (hR : ∀ (k : Nat) (v : Value) (c : AV), vs[k]? = some v → cs[k]? = some c → R w f own v c) : R w f own (.tuple vs.toArray) (.tup cs)
  | fn (n : Fn) (vs us : List Value) (fs cs : List AV) (hl : vs.length = fs.length) (hm : us.length = cs.length)
      (hR : ∀ (k : Nat) (v : Value) (c : AV), vs[k]? = some v → fs[k]? = some c → R w f own v c)
      (hS : ∀ (k : Nat) (v : Value) (c : AV), us[k]? = some v → cs[k]? = some c → R w f own v c) : R w f own (.func n vs.toArray us.toArray) (.fn n fs cs)
  | np : R w f own (.pointer none) .np
  | ni : R w f own .nilIface .ni
  | ifc (t : Nat) (v : Value) (c : AV) (h : R w f own v c) : R w f own (.iface t v) (.ifc t c)

/-- What is read and not owned stays so. -/
def Keeps (w : World) (own : Nat → Prop) (w' : World) (own' : Nat → Prop) : Prop :=
  ∀ (a : Addr) (v : Value), ¬ own a.block → w.cell? a = some v → ¬ own' a.block ∧ w'.cell? a = some v

theorem R.mono {w w' : World} {f f' : Phi} {own own' : Nat → Prop} (hf : f.le f') (hk : Keeps w own w' own') {v : Value} {c : AV}
    (h : R w f own v c) : R w' f' own' v c := by
  induction h with
  | any v => exact .any v
  | b x => exact .b x
  | p x q h => exact .p x q h
  | i k n => exact .i k n
  | s x h => exact .s x h
  | nil => exact .nil
  | e0 ad => exact .e0 ad
  | sl ad z c xs val h0 hc hm hz hp hcell hR ih =>
    refine .sl ad z c xs val h0 hc hm hz hp (fun k hlt => ?_) ih
    obtain ⟨a, h1, h2, h3⟩ := hcell k hlt
    have e : (a.add k).block = a.block := by unfold Addr.add; split <;> rfl
    obtain ⟨h4, h5⟩ := hk (a.add k) _ (by rw [e]; exact h2) h3
    exact ⟨a, h1, by rw [e] at h4; exact h4, h5⟩
  | own0 id z h => exact .own0 id z (hf.loc _ _ h)
  | own id g cap z n h => exact .own id g cap z n (hf.loc _ _ h)
  | ref0 id z h => exact .ref0 id z (hf.loc _ _ h)
  | ref id lo len g cap z n ad h hl hb => exact .ref id lo len g cap z n ad (hf.loc _ _ h) hl hb
  | ptr id off g cap z n h => exact .ptr id off g cap z n (hf.loc _ _ h)
  | ep id idx off g cap z n h => exact .ep id idx off g cap z n (hf.loc _ _ h)
  | rp a cs val hp hcell hR ih =>
    refine .rp a cs val hp (fun k hlt => ?_) ih
    obtain ⟨h2, h3⟩ := hcell k hlt
    have e : (a.add k).block = a.block := by unfold Addr.add; split <;> rfl
    obtain ⟨h4, h5⟩ := hk (a.add k) _ (by rw [e]; exact h2) h3
    exact ⟨by rw [e] at h4; exact h4, h5⟩
  | agg vs cs hl hR ih => exact .agg vs cs hl ih
  | tup vs cs hl hR ih => exact .tup vs cs hl ih
  | fn n vs us fs cs hl hm hR hS ih ih2 => exact .fn n vs us fs cs hl hm ih ih2
  | np => exact .np
  | ni => exact .ni
  | ifc t v c h ih => exact .ifc t v c ih

/-- A cell that names no object is read with any objects' places. -/
theorem R.pure {w : World} {f : Phi} {own : Nat → Prop} (f' : Phi) {v : Value} {c : AV} (h : R w f own v c) :
    c.pure = true → R w f' own v c := by
  induction h with
  | any v => exact fun _ => .any v
  | b x => exact fun _ => .b x
  | p x q h => exact fun _ => .p x q h
  | i k n => exact fun _ => .i k n
  | s x h => exact fun _ => .s x h
  | nil => exact fun _ => .nil
  | e0 ad => exact fun _ => .e0 ad
  | sl ad z c xs val h0 hc hm hz hp hcell hR ih =>
    exact fun _ => .sl ad z c xs val h0 hc hm hz hp hcell fun j i x c hx hi =>
      ih j i x c hx hi (AV.good.pure (hp x (List.mem_of_getElem? hx) c (List.mem_of_getElem? hi)))
  | rp a cs val hp hcell hR ih => exact fun _ => .rp a cs val hp hcell fun k c hk => ih k c hk (hp c (List.mem_of_getElem? hk))
  | np => exact fun _ => .np
  | ni => exact fun _ => .ni
  | _ => exact fun h => by simp [AV.pure] at h

theorem AV.good.one {c : AV} (h : c.good = true) : c.one = true := by cases c <;> first | rfl | simp [AV.good] at h

theorem R.one {w : World} {f : Phi} {own : Nat → Prop} {v : Value} {c : AV} (h : R w f own v c) (hc : c.one = true) : v.oneCell' = true := by
  cases h <;> first | rfl | simp [AV.one] at hc

/-- The cells of a solid value are read as the cells of what it is read as. -/
theorem R.cells {w : World} {f : Phi} {own : Nat → Prop} {v : Value} {c : AV} (h : R w f own v c) (hc : c.solid = true) :
    ∃ vs : List Value, v.cells = vs.toArray ∧ vs.length = c.cells.length ∧ ∀ (k : Nat) (u : Value) (d : AV), vs[k]? = some u → c.cells[k]? = some d → R w f own u d := by
  have h' := h
  cases h with
  | any => simp [AV.solid] at hc
  | tup => simp [AV.solid] at hc
  | agg vs cs hl hR => exact ⟨vs, rfl, hl, hR⟩
  | _ =>
    refine ⟨[_], rfl, rfl, fun k u d hu hd => ?_⟩
    match k with
    | 0 =>
      simp only [AV.cells, List.getElem?_cons_zero, Option.some.injEq] at hu hd
      subst hu; subst hd; exact h'
    | k + 1 => simp at hu

/-- An object in its place. -/
def ObjAt (w : World) (f : Phi) (own : Nat → Prop) (id : Nat) : AObj → Prop
  | .box cs => ∃ (g : Nat) (cur : Array Value) (e : TypeId), f id = some ⟨some g, 0, 0, 0⟩ ∧ w.heap[g]? = some (.cells cur e (0, 0)) ∧
      cur.size = cs.length ∧ ∀ (k : Nat) (c : AV) (v : Value), cs[k]? = some c → cur[k]? = some v → R w f own v c
  | .arr z xs => 0 < z ∧ ((f id = some ⟨none, 0, z, 0⟩ ∧ xs = []) ∨
      ∃ (g cap : Nat) (cur : Array Value) (e : TypeId), f id = some ⟨some g, cap, z, xs.length⟩ ∧ w.heap[g]? = some (.cells cur e (0, 0)) ∧
        cur.size = cap * z ∧ xs.length ≤ cap ∧ cap ≤ maxLen ∧ (∀ x ∈ xs, x.cells.length = z) ∧ (∀ x ∈ xs, ∀ c ∈ x.cells, c.good = true) ∧
        ∀ (j i : Nat) (x c : AV), xs[j]? = some x → x.cells[i]? = some c → ∃ v, cur[j * z + i]? = some v ∧ R w f own v c)

/-- All objects in their places, each in a block of its own. -/
structure ORel (f : Phi) (o : Ob) (w : World) : Prop where
  at_ : ∀ id ob, o id = some ob → ObjAt w f (owns f o) id ob
  xd : ∀ g, live f o g → ¬ f.x g
  inj : ∀ id id' ob ob' l l' g, o id = some ob → o id' = some ob' → f id = some l → f id' = some l' → l.blk = some g → l'.blk = some g → id = id'

/-- From one world to a later one: what was there and is not owned is as it was; what is owned then was owned, or is new. -/
structure Fr (w : World) (own : Nat → Prop) (w' : World) (own' : Nat → Prop) : Prop where
  size : w.heap.size ≤ w'.heap.size
  keep : ∀ g, g < w.heap.size → ¬ own g → w'.heap[g]? = w.heap[g]?
  sub : ∀ g, own' g → own g ∨ w.heap.size ≤ g
  os : w'.os = w.os
  tape : w'.tape = w.tape
  output : w'.output = w.output

theorem Fr.refl (w : World) (own : Nat → Prop) : Fr w own w own := ⟨Nat.le_refl _, fun _ _ _ => rfl, fun _ h => .inl h, rfl, rfl, rfl⟩

theorem Fr.trans {w w' w'' : World} {own own' own'' : Nat → Prop} (a : Fr w own w' own') (b : Fr w' own' w'' own'') : Fr w own w'' own'' where
  size := Nat.le_trans a.size b.size
  keep g hg hn := (b.keep g (Nat.lt_of_lt_of_le hg a.size) fun h => (a.sub g h).elim hn fun h => absurd hg (Nat.not_lt.2 h)).trans (a.keep g hg hn)
  sub g h := (b.sub g h).elim (a.sub g) fun h => .inr (Nat.le_trans a.size h)
  os := b.os.trans a.os
  tape := b.tape.trans a.tape
  output := b.output.trans a.output

theorem cell_lt {w : World} {a : Addr} {v : Value} (h : w.cell? a = some v) : a.block < w.heap.size := by
  unfold World.cell? at h
  split at h
  · rename_i hh; exact (Array.getElem?_eq_some_iff.1 hh).1
  · simp at h

theorem Fr.keeps {w w' : World} {own own' : Nat → Prop} (h : Fr w own w' own') : Keeps w own w' own' := fun a v hn hc => by
  have hlt := cell_lt hc
  refine ⟨fun h' => (h.sub _ h').elim hn fun h' => absurd hlt (Nat.not_lt.2 h'), ?_⟩
  rw [World.cell?_of_block (h.keep _ hlt hn)]; exact hc

theorem Fr.keepsX {w w' : World} {f f' : Phi} {o o' : Ob} (h : Fr w (live f o) w' (live f' o')) (hx : f'.x = f.x) : Keeps w (owns f o) w' (owns f' o') := fun a v hn hc => by
  obtain ⟨h1, h2⟩ := h.keeps a v (fun h => hn (.inl h)) hc
  exact ⟨fun h' => h'.elim h1 fun h' => hn (.inr (by rw [hx] at h'; exact h')), h2⟩

/-- The abstract state of a call: its temporaries, its objects, from which number on names are free, which operations of the region have run, how many temporaries there are, and how many objects it was handed. -/
structure St where
  t : Nat → AV
  o : Ob
  nx : Nat
  u : Nat → Bool
  nt : Nat
  c : Nat

def strAV (x : List UInt8) : AV := bif Nat.ble x.length 1000000 then .s x else .any

def ofCell : Value → AV
  | .bool x => .b x
  | .int k n => .i k n
  | .string x => strAV x.data.toList
  | .slice none 0 0 => .nil
  | .pointer none => .np
  | .nilIface => .ni
  | _ => .any

/-- What a constant is read as. -/
def ofVal : Value → AV
  | .agg cs => .agg (cs.toList.map ofCell)
  | .tuple ⟨[]⟩ => .tup []
  | .func n ⟨[]⟩ ⟨[]⟩ => .fn n [] []
  | v => ofCell v

theorem R.ofCell (w : World) (f : Phi) (own : Nat → Prop) (v : Value) : R w f own v (ofCell v) := by
  unfold K.ofCell
  split
  · exact .b _
  · exact .i _ _
  · rename_i x
    unfold strAV
    cases h : Nat.ble x.data.toList.length 1000000 with
    | false => exact .any _
    | true =>
      have h' := Nat.le_of_ble_eq_true h
      have : R w f own (.string ⟨x.data.toList.toArray⟩) (.s x.data.toList) := .s _ (by simp only [maxLen]; omega)
      simpa using this
  · exact .nil
  · exact .np
  · exact .ni
  · exact .any _

theorem R.ofVal (w : World) (f : Phi) (own : Nat → Prop) (v : Value) : R w f own v (ofVal v) := by
  unfold K.ofVal
  split
  · rename_i cs
    have : R w f own (.agg cs.toList.toArray) (.agg (cs.toList.map K.ofCell)) := by
      refine .agg _ _ (by simp) fun k v c hv hc => ?_
      rw [List.getElem?_map, hv] at hc
      simp only [Option.map_some, Option.some.injEq] at hc
      subst hc; exact R.ofCell w f own v
    simpa using this
  · exact .tup [] [] rfl fun k v c hv => by simp at hv
  · exact .fn _ [] [] [] [] rfl rfl (fun k v c hv => by simp at hv) (fun k v c hv => by simp at hv)
  · exact R.ofCell w f own v

def St.ev (st : St) : Operand → AV
  | .tmp t => st.t t
  | .const v => ofVal v
  | .func g => .fn (.func g) [] []
  | .global _ => .any

def updO : List (Nat × Option AObj) → Ob → Ob
  | [], o => o
  | (id, x) :: l, o => updO l (fun n => bif Nat.beq n id then x else o n)

def putT (d : Nat) (v : AV) (t : Nat → AV) : Nat → AV := fun n => bif Nat.beq n d then v else t n

def putD : Option Nat → AV → (Nat → AV) → Nat → AV
  | some d, v, t => putT d v t
  | none, _, t => t

/-- The state behind operation i of a region: its value, and what it has turned. -/
def St.app (st : St) (i : Nat) (dst : Option Nat) (v : AV) (wo : List (Nat × Option AObj)) : St :=
  { st with t := putD dst v st.t, o := updO wo st.o, u := fun n => bif Nat.beq n i then true else st.u n }

/-- A machine's activation and world are read as a state. -/
structure Rel (f : Phi) (st : St) (a : Act) (w : World) : Prop where
  t : ∀ k, R w f (owns f st.o) (a.tmps.getD k undef) (st.t k)
  n : a.tmps.size = st.nt
  d : a.defers = []
  o : ORel f st.o w
  xb : ∀ g, f.x g → g < w.heap.size
  fr : ∀ id, st.nx ≤ id → st.u ((id - st.nx) / 16) = false → f id = none

theorem Rel.ev {f : Phi} {st : St} {a : Act} {w : World} (h : Rel f st a w) (x : Operand) : R w f (owns f st.o) (a.eval x) (st.ev x) := by
  cases x with
  | tmp t => exact h.t t
  | const v => exact R.ofVal _ _ _ v
  | global g => exact .any _
  | func g => exact .fn _ [] [] [] [] rfl rfl (fun k v c hv => by simp at hv) (fun k v c hv => by simp at hv)

theorem R.undef (w : World) (f : Phi) (own : Nat → Prop) : R w f own undef (.tup []) := .tup [] [] rfl fun k v c hv => by simp at hv

/-- What an operation leaves behind: the new places, the new world, its value. -/
structure Out (f : Phi) (st : St) (w : World) (i : Nat) (v : AV) (wo : List (Nat × Option AObj)) (f' : Phi) (w' : World) (r : Value) : Prop where
  le : f.le f'
  fr : Fr w (live f st.o) w' (live f' (updO wo st.o))
  o : ORel f' (updO wo st.o) w'
  v : R w' f' (owns f' (updO wo st.o)) r v
  new : ∀ id, f id = none → f' id ≠ none → st.nx + 16 * i ≤ id ∧ id < st.nx + 16 * i + 16

theorem Out.rel {f : Phi} {st : St} {a : Act} {w : World} {i : Nat} {v : AV} {wo : List (Nat × Option AObj)} {f' : Phi} {w' : World} {r : Value}
    {dst : Option Tmp} (h : Rel f st a w) (hd : ∀ d, dst = some d → d < st.nt) (q : Out f st w i v wo f' w' r) :
    Rel f' (st.app i dst v wo) (a.put dst r) w' where
  t k := by
    have hold := (h.t k).mono q.le (q.fr.keepsX q.le.x)
    cases dst with
    | none => exact hold
    | some d =>
      have hlt := hd d rfl
      rw [← h.n] at hlt
      show R _ _ _ ((a.tmps.setIfInBounds d r).getD k undef) (bif Nat.beq k d then v else st.t k)
      by_cases e : k = d
      · subst e
        have : Nat.beq k k = true := Nat.beq_refl k
        rw [this]
        have e : (a.tmps.setIfInBounds k r).getD k undef = r := by simp [Array.getD_eq_getD_getElem?, hlt]
        rw [e]; exact q.v
      · have : Nat.beq k d = false := by
          cases hb : Nat.beq k d with
          | false => rfl
          | true => exact absurd (Nat.eq_of_beq_eq_true hb) e
        rw [this]
        simp only [cond_false]
        rw [Array.getD_eq_getD_getElem?, Array.getElem?_setIfInBounds_ne (by omega), ← Array.getD_eq_getD_getElem?]
        exact hold
  n := by
    cases dst with
    | none => exact h.n
    | some d => show (a.tmps.setIfInBounds d r).size = st.nt; rw [Array.size_setIfInBounds]; exact h.n
  d := by cases dst <;> exact h.d
  o := q.o
  xb g hg := by rw [q.le.x] at hg; exact Nat.lt_of_lt_of_le (h.xb g hg) q.fr.size
  fr id hid hu := by
    have hu' : (bif Nat.beq ((id - st.nx) / 16) i then true else st.u ((id - st.nx) / 16)) = false := hu
    cases hb : Nat.beq ((id - st.nx) / 16) i with
    | true => rw [hb] at hu'; simp at hu'
    | false =>
      rw [hb] at hu'
      have hn := h.fr id hid (by simpa using hu')
      have hne : (id - st.nx) / 16 ≠ i := fun e => by rw [e] at hb; rw [Nat.beq_refl i] at hb; cases hb
      cases hx : f' id with
      | none => rfl
      | some l =>
        obtain ⟨h1, h2⟩ := q.new id hn (by simp [hx])
        have hid' : st.nx ≤ id := hid
        omega

end Go.Proofs.YtbknlijpkabcnaaGreat.K
