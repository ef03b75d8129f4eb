/- Stops of a walk, along a plain function that is known to answer. No condition. -/
import Derived.Test.YtbknlijpkabcnaaGreatK25
namespace Go.Proofs.YtbknlijpkabcnaaGreat.K
open Go

@[irreducible] def FUEL : Nat := 4611686018427387904

section
variable {R : Type} {r : R}

theorem PS.ite {q : Prop} [Decidable q] {a b : Option R} {A B : Prop} (h : (if q then a else b) = some r) (hA : q → a = some r → A) (hB : ¬ q → b = some r → B) : PS q A B :=
  ⟨fun hq => hA hq (by rw [if_pos hq] at h; exact h), fun hq => hB hq (by rw [if_neg hq] at h; exact h)⟩
theorem PS.pos {q A B : Prop} (hq : q) (h : A) : PS q A B := ⟨fun _ => h, fun n => absurd hq n⟩
theorem PS.neg {q A B : Prop} (hq : ¬ q) (h : B) : PS q A B := ⟨fun n => absurd n hq, fun _ => h⟩
theorem OB.grd {q : Prop} [Decidable q] {a : Option R} {A : Prop} (h : (if q then a else none) = some r) (hA : q → a = some r → A) : OB q A := by
  by_cases hq : q
  · rw [if_pos hq] at h; exact ⟨hq, hA hq h⟩
  · rw [if_neg hq] at h; cases h
theorem EX.get {α : Type} {enc : α → AV} {l : List α} {n : Nat} {f : α → Option R} {A : AV → Prop} (h : (l[n]?).bind f = some r) (hA : ∀ x, l[n]? = some x → f x = some r → A (enc x)) : EX (l.map enc) n A := by
  cases hx : l[n]? with
  | none => rw [hx] at h; cases h
  | some x =>
    rw [hx] at h
    exact ⟨enc x, by rw [List.getElem?_map, hx]; rfl, hA x hx h⟩
theorem EX.pos {α : Type} {enc : α → AV} {l : List α} {n : Nat} {x : α} {A : AV → Prop} (hx : l[n]? = some x) (hA : A (enc x)) : EX (l.map enc) n A :=
  ⟨enc x, by rw [List.getElem?_map, hx]; rfl, hA⟩
theorem IX.get {l : List UInt8} {n : Nat} {f : UInt8 → Option R} {A : UInt8 → Prop} (h : (l[n]?).bind f = some r) (hA : ∀ x, l[n]? = some x → f x = some r → A x) : ∃ c, l[n]? = some c ∧ A c := by
  cases hx : l[n]? with
  | none => rw [hx] at h; cases h
  | some x => rw [hx] at h; exact ⟨x, rfl, hA x hx h⟩

/-- A next round. -/
structure NX {V : Type} (g : Nat → V → Option R) (r : R) (I : V → LS) (n : Nat) (st' : St) : Prop where
  ex : ∃ y : {p : Nat × V // g p.1 p.2 = some r}, y.1.1 < n + 1 ∧ Pass st' (I y.1.2)
/-- What comes behind a round of a loop. -/
def kLoop {V : Type} (g : Nat → V → Option R) (r : R) (I : V → LS) (n : Nat) (K : Ex → St → Prop) (e : Ex) (st' : St) : Prop := match e with
  | .nrm => NX g r I n st'
  | e => K e st'

/-- A loop, along a plain function that counts its rounds. -/
theorem LP.fuel {V : Type} {g : Nat → V → Option R} {n : Nat} {v : V} {B : St → (Ex → St → Prop) → Prop} {st : St} {K : Ex → St → Prop} (I : V → LS) (h : g n v = some r) (h0 : ∀ v, g 0 v = some r → False)
    (hp : Pass st (I v)) (hB : ∀ n v, g (n + 1) v = some r → B ((I v).st st.nt st.c) (kLoop g r I n K)) : LP B st K := by
  refine ⟨{p : Nat × V // g p.1 p.2 = some r}, fun p => I p.1.2, fun p => p.1.1, ⟨(n, v), h⟩, hp, fun p => ?_⟩
  obtain ⟨⟨n, v⟩, h⟩ := p
  cases n with
  | zero => exact (h0 v h).elim
  | succ n =>
    have := hB n v h
    have e : kLoop g r I n K = fun e st' => match e with
      | .nrm => ∃ y : {p : Nat × V // g p.1 p.2 = some r}, y.1.1 < n + 1 ∧ Pass st' (I y.1.2)
      | e => K e st' := by
      funext e st'
      cases e
      · exact propext ⟨NX.ex, NX.mk⟩
      · rfl
      · rfl
    rw [e] at this
    exact this
theorem NX.next {V : Type} {g : Nat → V → Option R} {I : V → LS} {n : Nat} {st' : St} {v : V} (h : g n v = some r) (hp : Pass st' (I v)) : NX g r I n st' :=
  ⟨⟨(n, v), h⟩, Nat.lt_succ_self n, hp⟩

end

/-- A cell that tells less than another one. -/
def wk0 (x y : AV) : Prop := match y with
  | .any => True
  | .b b => (match x with
    | .b a => a = b
    | .p q => q ↔ b = true
    | _ => False)
  | .p q' => (match x with
    | .b a => a = true ↔ q'
    | .p q => q ↔ q'
    | _ => False)
  | .i k b => (match x with
    | .i k' a => kk k' k (a = b)
    | _ => False)
  | .s b => (match x with
    | .s a => a = b
    | _ => False)
  | .sl z ys => (match x with
    | .nil => bif Nat.blt 0 z then ys = [] else False
    | .e0 => bif Nat.blt 0 z then ys = [] else False
    | .sl z' xs => bif Nat.beq z' z then xs = ys else False
    | _ => False)
  | y => x = y
def wkl0 : List AV → List AV → Prop
  | [], [] => True
  | x :: xs, y :: ys => wk0 x y ∧ wkl0 xs ys
  | _, _ => False
def wk1 (x y : AV) : Prop := match y with
  | .agg ds => (match x with
    | .agg cs => wkl0 cs ds
    | _ => False)
  | .rp ds => (match x with
    | .rp cs => bif ds.all AV.pure then wkl0 cs ds else False
    | _ => False)
  | y => wk0 x y
def wkl1 : List AV → List AV → Prop
  | [], [] => True
  | x :: xs, y :: ys => wk1 x y ∧ wkl1 xs ys
  | _, _ => False
def wk (x y : AV) : Prop := match y with
  | .fn f a c => (match x with
    | .fn g b d => g = f ∧ wkl1 b a ∧ wkl1 d c
    | _ => False)
  | y => wk1 x y
def wkl : List AV → List AV → Prop
  | [], [] => True
  | x :: xs, y :: ys => wk x y ∧ wkl xs ys
  | _, _ => False
def wkO (x y : AObj) : Prop := match y with
  | .box ds => (match x with
    | .box cs => wkl0 cs ds
    | _ => False)
  | .arr z ys => (match x with
    | .arr z' xs => bif Nat.beq z' z then xs = ys else False
    | _ => False)
def wkOs : List (Option AObj) → List AObj → Prop
  | [], [] => True
  | some x :: xs, y :: ys => wkO x y ∧ wkOs xs ys
  | _, _ => False

section
variable {w : World} {f : Phi} {own : Nat → Prop}

theorem wk0_R {v : Value} {x y : AV} (h : R w f own v x) (k : wk0 x y) : R w f own v y := by
  unfold wk0 at k
  split at k
  · exact .any _
  · rename_i b
    split at k
    · rename_i a; subst k; exact h
    · rename_i q
      cases h with
      | p a _ hq =>
        have : a = b := by
          cases a <;> cases b <;> simp_all
        subst this; exact .b _
    · exact k.elim
  · rename_i q'
    split at k
    · rename_i a
      cases h with
      | b _ => exact .p _ _ k
    · rename_i q
      cases h with
      | p a _ hq => exact .p _ _ (hq.trans k)
    · exact k.elim
  · split at k
    · rename_i kd b k' a
      unfold kk at k
      split at k
      · rename_i e; subst e; subst k; exact h
      · exact k.elim
    · exact k.elim
  · split at k
    · subst k; exact h
    · exact k.elim
  · rename_i z ys
    split at k
    · obtain ⟨h1, rfl⟩ := bool_ite k
      cases h
      exact .sl none z 0 [] (fun _ => .nilIface) (Nat.le_of_ble_eq_true h1) (Nat.le_refl _) (Nat.zero_le _) (fun x hx => by cases hx) (fun x hx => by cases hx) (fun k hk => by simp at hk) (fun j i x c hx => by simp at hx)
    · obtain ⟨h1, rfl⟩ := bool_ite k
      cases h
      exact .sl _ z 0 [] (fun _ => .nilIface) (Nat.le_of_ble_eq_true h1) (Nat.le_refl _) (Nat.zero_le _) (fun x hx => by cases hx) (fun x hx => by cases hx) (fun k hk => by simp at hk) (fun j i x c hx => by simp at hx)
    · obtain ⟨h1, h2⟩ := beq_ite k
      subst h1; subst h2; exact h
    · exact k.elim
  · rw [← k]; exact h

theorem wkl0_get : ∀ {xs ys : List AV}, wkl0 xs ys → xs.length = ys.length ∧ ∀ (k : Nat) x y, xs[k]? = some x → ys[k]? = some y → wk0 x y
  | [], [], _ => ⟨rfl, fun k x y h => by simp at h⟩
  | x :: xs, y :: ys, h => by
    obtain ⟨h1, h2⟩ := wkl0_get h.2
    refine ⟨by simp [h1], fun k a b ha hb => ?_⟩
    match k with
    | 0 => simp only [List.getElem?_cons_zero, Option.some.injEq] at ha hb; subst ha; subst hb; exact h.1
    | k + 1 => exact h2 k a b (by simpa using ha) (by simpa using hb)
  | [], _ :: _, h => h.elim
  | _ :: _, [], h => h.elim

theorem wk1_R {v : Value} {x y : AV} (h : R w f own v x) (k : wk1 x y) : R w f own v y := by
  unfold wk1 at k
  split at k
  · split at k
    · obtain ⟨h1, h2⟩ := wkl0_get k
      cases h with
      | agg vs _ hl hR =>
        refine .agg vs _ (hl.trans h1) fun i u c hu hc => ?_
        have hlt := (List.getElem?_eq_some_iff.1 hu).1
        have hx := List.getElem?_eq_getElem (by omega : i < (by assumption : List AV).length)
        exact wk0_R (hR i u _ hu hx) (h2 i _ _ hx hc)
    · exact k.elim
  · split at k
    · obtain ⟨hp, k⟩ := bool_ite k
      obtain ⟨h1, h2⟩ := wkl0_get k
      cases h with
      | rp a _ val hp' hcell hR =>
        refine .rp a _ val (List.all_eq_true.1 hp) (fun i hi => hcell i (by omega)) fun i c hc => ?_
        have hlt := (List.getElem?_eq_some_iff.1 hc).1
        have hx := List.getElem?_eq_getElem (by omega : i < (by assumption : List AV).length)
        exact wk0_R (hR i _ hx) (h2 i _ _ hx hc)
    · exact k.elim
  · exact wk0_R h k

theorem wkl1_get : ∀ {xs ys : List AV}, wkl1 xs ys → xs.length = ys.length ∧ ∀ (k : Nat) x y, xs[k]? = some x → ys[k]? = some y → wk1 x y
  | [], [], _ => ⟨rfl, fun k x y h => by simp at h⟩
  | x :: xs, y :: ys, h => by
    obtain ⟨h1, h2⟩ := wkl1_get h.2
    refine ⟨by simp [h1], fun k a b ha hb => ?_⟩
    match k with
    | 0 => simp only [List.getElem?_cons_zero, Option.some.injEq] at ha hb; subst ha; subst hb; exact h.1
    | k + 1 => exact h2 k a b (by simpa using ha) (by simpa using hb)
  | [], _ :: _, h => h.elim
  | _ :: _, [], h => h.elim

theorem wk_R {v : Value} {x y : AV} (h : R w f own v x) (k : wk x y) : R w f own v y := by
  unfold wk at k
  split at k
  · split at k
    · rename_i g0 b0 d0
      obtain ⟨rfl, k1, k2⟩ := k
      obtain ⟨h1, h2⟩ := wkl1_get k1
      obtain ⟨h3, h4⟩ := wkl1_get k2
      cases h with
      | fn _ vs us _ _ hl hm hR hS =>
        refine .fn _ vs us _ _ (hl.trans h1) (hm.trans h3) (fun i u c hu hc => ?_) (fun i u c hu hc => ?_)
        · have hlt := (List.getElem?_eq_some_iff.1 hu).1
          have hx := List.getElem?_eq_getElem (by omega : i < b0.length)
          exact wk1_R (hR i u _ hu hx) (h2 i _ _ hx hc)
        · have hlt := (List.getElem?_eq_some_iff.1 hu).1
          have hx := List.getElem?_eq_getElem (by omega : i < d0.length)
          exact wk1_R (hS i u _ hu hx) (h4 i _ _ hx hc)
    · exact k.elim
  · exact wk1_R h k

theorem wkl_get : ∀ {xs ys : List AV}, wkl xs ys → xs.length = ys.length ∧ ∀ (k : Nat) x y, xs[k]? = some x → ys[k]? = some y → wk x y
  | [], [], _ => ⟨rfl, fun k x y h => by simp at h⟩
  | x :: xs, y :: ys, h => by
    obtain ⟨h1, h2⟩ := wkl_get h.2
    refine ⟨by simp [h1], fun k a b ha hb => ?_⟩
    match k with
    | 0 => simp only [List.getElem?_cons_zero, Option.some.injEq] at ha hb; subst ha; subst hb; exact h.1
    | k + 1 => exact h2 k a b (by simpa using ha) (by simpa using hb)
  | [], _ :: _, h => h.elim
  | _ :: _, [], h => h.elim

theorem wkOs_get : ∀ {xs : List (Option AObj)} {ys : List AObj}, wkOs xs ys → ∃ zs : List AObj, xs = zs.map some ∧ zs.length = ys.length ∧ ∀ (k : Nat) x y, zs[k]? = some x → ys[k]? = some y → wkO x y
  | [], [], _ => ⟨[], rfl, rfl, fun k x y h => by simp at h⟩
  | some x :: xs, y :: ys, h => by
    obtain ⟨zs, e, h1, h2⟩ := wkOs_get h.2
    refine ⟨x :: zs, by simp [e], by simp [h1], fun k a b ha hb => ?_⟩
    match k with
    | 0 => simp only [List.getElem?_cons_zero, Option.some.injEq] at ha hb; subst ha; subst hb; exact h.1
    | k + 1 => exact h2 k a b (by simpa using ha) (by simpa using hb)
  | [], _ :: _, h => h.elim
  | none :: _, [], h => h.elim
  | none :: _, _ :: _, h => h.elim
  | some _ :: _, [], h => h.elim

theorem wkO_at {id : Nat} {x y : AObj} (h : ObjAt w f own id x) (k : wkO x y) : ObjAt w f own id y := by
  unfold wkO at k
  split at k
  · split at k
    · obtain ⟨h1, h2⟩ := wkl0_get k
      obtain ⟨g, cur, e, k1, k2, k3, k4⟩ := h
      refine ⟨g, cur, e, k1, k2, k3.trans h1, fun i c v hc hv => ?_⟩
      have hlt := (List.getElem?_eq_some_iff.1 hc).1
      have hx := List.getElem?_eq_getElem (by omega : i < (by assumption : List AV).length)
      exact wk0_R (k4 i _ v hx hv) (h2 i _ _ hx hc)
    · exact k.elim
  · split at k
    · obtain ⟨h1, h2⟩ := beq_ite k
      subst h1; subst h2; exact h
    · exact k.elim

theorem live_congr {o o' : Ob} (h : ∀ id, (o id).isSome = (o' id).isSome) : live f o = live f o' := by
  funext g
  apply propext
  unfold live
  constructor <;> rintro ⟨id, ob, l, h1, h2, h3⟩
  · have := h id; rw [h1] at this
    obtain ⟨ob', h'⟩ := Option.isSome_iff_exists.1 this.symm
    exact ⟨id, ob', l, h', h2, h3⟩
  · have := h id; rw [h1] at this
    obtain ⟨ob', h'⟩ := Option.isSome_iff_exists.1 this
    exact ⟨id, ob', l, h', h2, h3⟩

theorem wk_ORel {xs ys : List AObj} (h : ORel f (fun j => xs[j]?) w) (hl : xs.length = ys.length) (k : ∀ (i : Nat) x y, xs[i]? = some x → ys[i]? = some y → wkO x y) :
    live f (fun j => xs[j]?) = live f (fun j => ys[j]?) ∧ ORel f (fun j => ys[j]?) w := by
  have hlive : live f (fun j => xs[j]?) = live f (fun j => ys[j]?) := live_congr fun id => by
    rcases Nat.lt_or_ge id xs.length with h | h
    · simp [List.getElem?_eq_getElem h, List.getElem?_eq_getElem (by omega : id < ys.length)]
    · simp [List.getElem?_eq_none h, List.getElem?_eq_none (by omega : ys.length ≤ id)]
  have howns : owns f (fun j => xs[j]?) = owns f (fun j => ys[j]?) := by unfold owns; rw [hlive]
  have hex : ∀ {id : Nat} {y : AObj}, ys[id]? = some y → ∃ x, xs[id]? = some x := fun {id y} hy =>
    ⟨_, List.getElem?_eq_getElem (by have := (List.getElem?_eq_some_iff.1 hy).1; omega)⟩
  refine ⟨hlive, fun id y hy => ?_, fun g hg => h.xd g (by rw [hlive]; exact hg), fun id id' y y' l l' g hy hy' => ?_⟩
  · obtain ⟨x, hx⟩ := hex hy
    rw [← howns]
    exact wkO_at (h.at_ id x hx) (k id x y hx hy)
  · obtain ⟨x, hx⟩ := hex hy
    obtain ⟨x', hx'⟩ := hex hy'
    exact h.inj id id' x x' l l' g hx hx'

end

/-- A contract asks for less. -/
theorem Con.wk {P : Program} {f : FuncId} {args args' : List AV} {co co' : List AObj} {ret : AV} {cr : List (Option AObj)} (h : Con P f args' co' ret cr) (ha : wkl args args')
    (hl : co.length = co'.length) (ho : ∀ (i : Nat) x y, co[i]? = some x → co'[i]? = some y → wkO x y) : Con P f args co ret cr := by
  intro φ w vs hO hx hn hv hR
  obtain ⟨a1, a2⟩ := wkl_get ha
  obtain ⟨o1, o2⟩ := wk_ORel hO hl ho
  have howns : owns φ (fun j => co[j]?) = owns φ (fun j => co'[j]?) := by unfold owns; rw [o1]
  rw [o1]
  refine h φ w vs o2 hx (fun j hj => hn j (by omega)) (hv.trans a1) fun k v c hk hc => ?_
  have hlt := (List.getElem?_eq_some_iff.1 hc).1
  have hx := List.getElem?_eq_getElem (by omega : k < args.length)
  rw [← howns]
  exact wk_R (hR k v _ hk hx) (a2 k _ _ hx hc)

def flatO (x : AObj) : Prop := FlatO x

theorem CK.call {P : Program} {f b : Nat} {avs : List AV} {o : Ob} {K : Kont} {R Y : Type} {r : R} {p : Option Y} {q : Y → Option R} (fz : Bool) (m : List Nat) {args : List AV} {co : List AObj} {ret : Y → AV} {co' : Y → List (Option AObj)}
    (h : p.bind q = some r) (hc : ∀ y, p = some y → Con P f args co (ret y) (co' y)) (ha : wkl (avs.map (down m o)) args) (ho : wkOs (m.map fun id => (o id).map (downO m o)) co)
    (hn : nodupB m = true) (hl : ∀ y, (Nat.ble m.length (co' y).length && Nat.ble (co' y).length (m.length + 16)) = true)
    (hf : ∀ y, seen m (boxIds m o ++ avs.flatMap (ids o)) = [] ∨ Flat (ret y) (co' y))
    (hK : ∀ y, p = some y → q y = some r → K (up m b (bif fz then frz m.length (co' y) (ret y) else ret y)) (wrs m b m b (bif fz then frzL m.length (co' y) else co' y)) (m ++ boxIds m o ++ avs.flatMap (ids o))) :
    CK P f b avs o K := by
  cases p with
  | none => cases h
  | some y =>
    obtain ⟨zs, e, h1, h2⟩ := wkOs_get ho
    have hl' := hl y
    rw [Bool.and_eq_true] at hl'
    exact ⟨fz, m, zs, ret y, co' y, (hc y rfl).wk ha h1 h2, nodupB_spec hn, e, Nat.le_of_ble_eq_true hl'.1, Nat.le_of_ble_eq_true hl'.2, hf y, hK y rfl h⟩

end Go.Proofs.YtbknlijpkabcnaaGreat.K
