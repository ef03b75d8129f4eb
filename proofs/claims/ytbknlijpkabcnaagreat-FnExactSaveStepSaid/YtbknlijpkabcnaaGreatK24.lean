/- A table of types that is checked against the program. No condition. -/
import Derived.Test.YtbknlijpkabcnaaGreatK23
namespace Go.Proofs.YtbknlijpkabcnaaGreat.K
open Go

def avB : AV → AV → Bool
  | .b x, .b y => x == y
  | .i k n, .i k' m => decide (k = k') && n == m
  | .s x, .s y => x == y
  | .nil, .nil => true
  | .np, .np => true
  | .ni, .ni => true
  | _, _ => false

theorem avB_eq {x y : AV} (h : avB x y = true) : x = y := by
  unfold avB at h
  split at h <;> simp_all

def avsB : List AV → List AV → Bool
  | [], [] => true
  | x :: xs, y :: ys => avB x y && avsB xs ys
  | _, _ => false

theorem avsB_eq : ∀ {xs ys : List AV}, avsB xs ys = true → xs = ys
  | [], [], _ => rfl
  | x :: xs, y :: ys, h => by
    simp only [avsB, Bool.and_eq_true] at h
    rw [avB_eq h.1, avsB_eq h.2]
  | [], _ :: _, h => by cases h
  | _ :: _, [], h => by cases h

def zB : AV → AV → Bool
  | .agg xs, .agg ys => avsB xs ys
  | x, y => avB x y

theorem zB_eq {x y : AV} (h : zB x y = true) : x = y := by
  unfold zB at h
  split at h
  · rw [avsB_eq h]
  · exact avB_eq h

def kB (P : Program) : TK → TypeDesc → Bool
  | .int k, .int k' => decide (k = k')
  | .bool, .bool => true
  | .str, .string => true
  | .slice e, .slice e' => e == e'
  | .struct fs, .struct gs => gs.toList.map (fun g => (g.offset, g.type)) == fs && gs.toList.all fun g => match P.info? g.type with
    | some i => i.size != 0
    | none => false
  | .ptr e, .pointer e' => e == e'
  | .func, .func _ _ _ => true
  | .iface, .interface _ => true
  | _, _ => false

theorem kB_ok {P : Program} {k : TK} {d : TypeDesc} (h : kB P k d = true) : k.ok P d := by
  unfold kB at h
  split at h
  case h_5 fs gs =>
    rw [Bool.and_eq_true] at h
    refine ⟨by simpa using h.1, fun g hg => ?_⟩
    have := List.all_eq_true.1 h.2 g hg
    split at this
    · rename_i i hi; exact ⟨i, hi, by simpa using this⟩
    · cases this
  all_goals first | (cases h; done) | trivial | (simpa [TK.ok] using h)

def oneB (ti : TI) : Bool := match ti.k with
  | .struct _ => true
  | _ => ti.size == 1

def okB (P : Program) (t : Nat) (ti : TI) : Bool :=
  (match P.underlying t with
    | some d => kB P ti.k d
    | none => false) &&
  (match P.info? t with
    | some i => match i.zero with
      | some v => i.size == ti.size && i.bytes == ti.bytes && zB (ofVal v) ti.zero && v.cells.size == ti.size
      | none => false
    | none => false) &&
  (Nat.blt 0 ti.size && Nat.blt 0 ti.bytes && oneB ti && ti.zero.solid && ti.zero.cells.length == ti.size && ti.zero.cells.all AV.good)

theorem okB_ok {P : Program} {t : Nat} {ti : TI} (h : okB P t ti = true) : ti.Ok P t := by
  unfold okB at h
  simp only [Bool.and_eq_true] at h
  obtain ⟨⟨h1, h2⟩, ⟨⟨⟨⟨h3, h4⟩, h5⟩, h6⟩, h7⟩, h8⟩ := h
  refine ⟨?_, ?_, ⟨Nat.le_of_ble_eq_true h3, Nat.le_of_ble_eq_true h4⟩, ?_, ⟨h6, by simpa using h7, List.all_eq_true.1 h8⟩⟩
  · split at h1
    · rename_i d hd; exact ⟨d, hd, kB_ok h1⟩
    · cases h1
  · split at h2
    · rename_i i hi
      split at h2
      · rename_i v hv
        simp only [Bool.and_eq_true, beq_iff_eq] at h2
        exact ⟨i, v, hi, h2.1.1.1, h2.1.1.2, hv, zB_eq h2.1.2, h2.2⟩
      · cases h2
    · cases h2
  · unfold oneB at h5
    split <;> rename_i hk
    · trivial
    · split at h5
      · rename_i hk'; exact absurd hk' (hk _)
      · simpa using h5

/-- A table as a tree. -/
inductive BT where
  | leaf
  | node (k : Nat) (ti : TI) (l r : BT)

def BT.get : BT → Nat → Option TI
  | .leaf, _ => none
  | .node k ti l r, n => bif Nat.beq n k then some ti else bif Nat.blt n k then l.get n else r.get n

def BT.okB (P : Program) : BT → Bool
  | .leaf => true
  | .node k ti l r => K.okB P k ti && l.okB P && r.okB P

theorem BT.ok {P : Program} : ∀ {b : BT}, b.okB P = true → Tab.Ok P b.get
  | .leaf, _, t, ti, h => by cases h
  | .node k tk l r, hb, t, ti, h => by
    simp only [BT.okB, Bool.and_eq_true] at hb
    simp only [BT.get] at h
    cases h1 : Nat.beq t k with
    | true =>
      rw [h1] at h
      have := Nat.eq_of_beq_eq_true h1
      subst this
      cases h; exact okB_ok hb.1.1
    | false =>
      rw [h1] at h
      simp only [cond_false] at h
      cases h2 : Nat.blt t k with
      | true => rw [h2] at h; exact BT.ok hb.1.2 t ti h
      | false => rw [h2] at h; exact BT.ok hb.2 t ti h

end Go.Proofs.YtbknlijpkabcnaaGreat.K
