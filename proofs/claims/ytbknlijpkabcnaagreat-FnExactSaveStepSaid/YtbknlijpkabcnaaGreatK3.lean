/- Lists side by side; what the machine's words for types, loads and stores come to. No condition. -/
import Derived.Test.YtbknlijpkabcnaaGreatK2
namespace Go.Proofs.YtbknlijpkabcnaaGreat.K
open Go

/-- Two lists, element by element. -/
def Pw {α β : Type} (r : α → β → Prop) (l : List α) (m : List β) : Prop := l.length = m.length ∧ ∀ (k : Nat) a b, l[k]? = some a → m[k]? = some b → r a b

def splice {α : Type} (l : List α) (o : Nat) (v : List α) : List α := l.take o ++ v ++ l.drop (o + v.length)

theorem get_splice {α : Type} (l v : List α) (o : Nat) (h : o + v.length ≤ l.length) (k : Nat) :
    (splice l o v)[k]? = if k < o then l[k]? else if k < o + v.length then v[k - o]? else l[k]? := by
  unfold splice
  have h1 : (l.take o).length = o := by rw [List.length_take]; omega
  by_cases a : k < o
  · rw [if_pos a, List.append_assoc, List.getElem?_append_left (by omega), List.getElem?_take, if_pos a]
  · rw [if_neg a]
    by_cases b : k < o + v.length
    · rw [if_pos b, List.append_assoc, List.getElem?_append_right (by omega), List.getElem?_append_left (by omega), h1]
    · rw [if_neg b, List.getElem?_append_right (by rw [List.length_append]; omega), List.getElem?_drop, List.length_append, h1]
      congr 1; omega

theorem length_splice {α : Type} (l v : List α) (o : Nat) (h : o + v.length ≤ l.length) : (splice l o v).length = l.length := by
  unfold splice; simp only [List.length_append, List.length_take, List.length_drop]; omega

theorem Pw.splice {α β : Type} {r : α → β → Prop} {l : List α} {m : List β} {v : List α} {u : List β} (h : Pw r l m) (g : Pw r v u) (o : Nat)
    (hl : o + v.length ≤ l.length) : Pw r (splice l o v) (splice m o u) := by
  have hm : o + u.length ≤ m.length := by rw [← g.1, ← h.1]; exact hl
  refine ⟨by rw [length_splice _ _ _ hl, length_splice _ _ _ hm]; exact h.1, fun k a b ha hb => ?_⟩
  rw [get_splice _ _ _ hl] at ha
  rw [get_splice _ _ _ hm] at hb
  rw [← g.1] at hb
  by_cases c : k < o
  · rw [if_pos c] at ha hb; exact h.2 k a b ha hb
  · rw [if_neg c] at ha hb
    by_cases d : k < o + v.length
    · rw [if_pos d] at ha hb; exact g.2 _ a b ha hb
    · rw [if_neg d] at ha hb; exact h.2 k a b ha hb

theorem Pw.drop {α β : Type} {r : α → β → Prop} {l : List α} {m : List β} (h : Pw r l m) (n : Nat) : Pw r (l.drop n) (m.drop n) :=
  ⟨by simp [h.1], fun k a b ha hb => h.2 _ a b (by rw [List.getElem?_drop] at ha; exact ha) (by rw [List.getElem?_drop] at hb; exact hb)⟩

theorem Pw.take {α β : Type} {r : α → β → Prop} {l : List α} {m : List β} (h : Pw r l m) (n : Nat) : Pw r (l.take n) (m.take n) := by
  refine ⟨by simp [h.1], fun k a b ha hb => ?_⟩
  rw [List.getElem?_take] at ha hb
  split at ha
  · rename_i hk; rw [if_pos hk] at hb; exact h.2 k a b ha hb
  · cases ha

theorem Pw.append {α β : Type} {r : α → β → Prop} {l v : List α} {m u : List β} (h : Pw r l m) (g : Pw r v u) : Pw r (l ++ v) (m ++ u) := by
  refine ⟨by simp [h.1, g.1], fun k a b ha hb => ?_⟩
  by_cases c : k < l.length
  · rw [List.getElem?_append_left c] at ha
    rw [List.getElem?_append_left (by rw [← h.1]; exact c)] at hb
    exact h.2 k a b ha hb
  · rw [List.getElem?_append_right (by omega)] at ha
    rw [List.getElem?_append_right (by rw [← h.1]; omega), ← h.1] at hb
    exact g.2 _ a b ha hb

theorem Pw.ex {α β : Type} {r : α → β → Prop} {l : List α} {m : List β} (h : Pw r l m) {k : Nat} {b : β} (hb : m[k]? = some b) : ∃ a, l[k]? = some a ∧ r a b := by
  have hk : k < l.length := by rw [h.1]; exact (List.getElem?_eq_some_iff.1 hb).1
  exact ⟨l[k], List.getElem?_eq_getElem hk, h.2 k _ b (List.getElem?_eq_getElem hk) hb⟩

theorem Pw.imp {α β : Type} {r s : α → β → Prop} {l : List α} {m : List β} (h : Pw r l m) (g : ∀ a b, r a b → s a b) : Pw s l m :=
  ⟨h.1, fun k a b ha hb => g a b (h.2 k a b ha hb)⟩

theorem Pw.nil {α β : Type} {r : α → β → Prop} : Pw r ([] : List α) ([] : List β) := ⟨rfl, fun k a b h => by simp at h⟩

theorem Pw.cons {α β : Type} {r : α → β → Prop} {a : α} {b : β} {l : List α} {m : List β} (h : r a b) (g : Pw r l m) : Pw r (a :: l) (b :: m) := by
  refine ⟨by simp [g.1], fun k x y hx hy => ?_⟩
  match k with
  | 0 => simp only [List.getElem?_cons_zero, Option.some.injEq] at hx hy; subst hx; subst hy; exact h
  | k + 1 => exact g.2 k x y (by simpa using hx) (by simpa using hy)

theorem Pw.map {α β γ : Type} {r : α → β → Prop} {f : γ → α} {g : γ → β} (l : List γ) (h : ∀ x, r (f x) (g x)) : Pw r (l.map f) (l.map g) := by
  induction l with
  | nil => exact Pw.nil
  | cons x l ih => exact Pw.cons (h x) ih

theorem Pw.mem {α β : Type} {r : α → β → Prop} {l : List α} {m : List β} (h : Pw r l m) {a : α} (ha : a ∈ l) : ∃ b ∈ m, r a b := by
  obtain ⟨k, hk, rfl⟩ := List.mem_iff_getElem.1 ha
  have hm : k < m.length := by rw [← h.1]; exact hk
  exact ⟨m[k], List.getElem_mem hm, h.2 k _ _ (List.getElem?_eq_getElem hk) (List.getElem?_eq_getElem hm)⟩

/-- Elements of z cells each, over a row of cells. -/
structure El {α : Type} (r : α → AV → Prop) (z : Nat) (cur : List α) (xs : List AV) : Prop where
  zz : ∀ x ∈ xs, x.cells.length = z
  le : xs.length * z ≤ cur.length
  at_ : ∀ (j i : Nat) x c, xs[j]? = some x → x.cells[i]? = some c → ∃ v, cur[j * z + i]? = some v ∧ r v c

theorem El.lt {α : Type} {r : α → AV → Prop} {z : Nat} {cur : List α} {xs : List AV} (h : El r z cur xs) {j i : Nat} {x c : AV} (hx : xs[j]? = some x) (hc : x.cells[i]? = some c) :
    j < xs.length ∧ i < z := by
  refine ⟨(List.getElem?_eq_some_iff.1 hx).1, ?_⟩
  rw [← h.zz x (List.mem_of_getElem? hx)]; exact (List.getElem?_eq_some_iff.1 hc).1

/-- One element's cells. -/
theorem El.cells {α : Type} {r : α → AV → Prop} {z : Nat} {cur : List α} {xs : List AV} (h : El r z cur xs) {n : Nat} {x : AV} (hx : xs[n]? = some x) :
    Pw r ((cur.drop (n * z)).take z) x.cells := by
  have hz := h.zz x (List.mem_of_getElem? hx)
  have hn := (List.getElem?_eq_some_iff.1 hx).1
  have hle := h.le
  have : (n + 1) * z ≤ xs.length * z := Nat.mul_le_mul_right z hn
  rw [Nat.add_mul] at this
  refine ⟨by rw [List.length_take, List.length_drop, hz]; omega, fun k a b ha hb => ?_⟩
  obtain ⟨v, hv, hr⟩ := h.at_ n k x b hx hb
  rw [List.getElem?_take] at ha
  split at ha
  · rw [List.getElem?_drop, hv] at ha; cases ha; exact hr
  · cases ha

theorem mul_add_inj {z j j' i i' : Nat} (hi : i < z) (hi' : i' < z) (h : j * z + i = j' * z + i') : j = j' ∧ i = i' := by
  have h1 : j = j' := by
    rcases Nat.lt_trichotomy j j' with h2 | h2 | h2
    · have : (j + 1) * z ≤ j' * z := Nat.mul_le_mul_right z h2
      rw [Nat.add_mul] at this; omega
    · exact h2
    · have : (j' + 1) * z ≤ j * z := Nat.mul_le_mul_right z h2
      rw [Nat.add_mul] at this; omega
  subst h1; exact ⟨rfl, by omega⟩

theorem putCells_length {z : Nat} {x v : AV} {off : Nat} (hx : x.cells.length = z) (h : off + v.cells.length ≤ z) : (putCells z x off v).cells.length = z := by
  unfold putCells
  cases e : Nat.beq v.cells.length z with
  | true => simp only [cond_true]; exact Nat.eq_of_beq_eq_true e
  | false =>
    simp only [cond_false, AV.cells]
    show (splice x.cells off v.cells).length = z
    rw [length_splice _ _ _ (by omega)]; exact hx

theorem putCells_cells {z : Nat} {x v : AV} {off : Nat} (hx : x.cells.length = z) (h : off + v.cells.length ≤ z) : (putCells z x off v).cells = splice x.cells off v.cells := by
  unfold putCells
  cases e : Nat.beq v.cells.length z with
  | true =>
    simp only [cond_true]
    have e' := Nat.eq_of_beq_eq_true e
    have : off = 0 := by omega
    subst this
    unfold splice
    simp only [List.take_zero, List.nil_append, Nat.zero_add]
    rw [List.drop_eq_nil_of_le (by omega)]; simp
  | false => rfl

/-- A store into an element. -/
theorem El.put {α : Type} {r : α → AV → Prop} {z : Nat} {cur : List α} {xs : List AV} (h : El r z cur xs) {n : Nat} {x : AV} (hx : xs[n]? = some x) (off : Nat)
    (v : AV) (vs : List α) (hv : Pw r vs v.cells) (hl : off + v.cells.length ≤ z) : El r z (splice cur (n * z + off) vs) (xs.set n (putCells z x off v)) := by
  have hz := h.zz x (List.mem_of_getElem? hx)
  have hn := (List.getElem?_eq_some_iff.1 hx).1
  have hle := h.le
  have h1 : (n + 1) * z ≤ xs.length * z := Nat.mul_le_mul_right z hn
  rw [Nat.add_mul] at h1
  have hfit : n * z + off + vs.length ≤ cur.length := by rw [hv.1]; omega
  refine ⟨fun y hy => ?_, by rw [length_splice _ _ _ hfit, List.length_set]; exact hle, fun j i y c hy hc => ?_⟩
  · rcases List.mem_or_eq_of_mem_set hy with h2 | h2
    · exact h.zz y h2
    · subst h2; exact putCells_length hz hl
  · rw [get_splice _ _ _ hfit]
    by_cases e : j = n
    · subst e
      rw [List.getElem?_set_self hn] at hy
      simp only [Option.some.injEq] at hy
      subst hy
      rw [putCells_cells hz hl, get_splice _ _ _ (by omega)] at hc
      by_cases a : i < off
      · rw [if_pos a] at hc
        rw [if_pos (by omega)]; exact h.at_ j i x c hx hc
      · rw [if_neg a] at hc
        rw [if_neg (by omega)]
        by_cases b : i < off + v.cells.length
        · rw [if_pos b] at hc
          rw [if_pos (by rw [hv.1]; omega)]
          obtain ⟨u, hu, hr⟩ := hv.ex hc
          refine ⟨u, ?_, hr⟩
          rw [← hu]; congr 1; omega
        · rw [if_neg b] at hc
          rw [if_neg (by rw [hv.1]; omega)]; exact h.at_ j i x c hx hc
    · rw [List.getElem?_set_ne (fun e' => e e'.symm)] at hy
      obtain ⟨hj, hi⟩ := h.lt hy hc
      obtain ⟨u, hu, hr⟩ := h.at_ j i y c hy hc
      refine ⟨u, ?_, hr⟩
      rw [← hu]
      by_cases a : j * z + i < n * z + off
      · rw [if_pos a]
      · rw [if_neg a]
        by_cases b : j * z + i < n * z + off + vs.length
        · exfalso
          rw [hv.1] at b
          have : j * z + i = n * z + (j * z + i - n * z) := by omega
          exact e (mul_add_inj hi (by omega) this).1
        · rw [if_neg b]

/-- Elements behind elements. -/
theorem El.append {α : Type} {r : α → AV → Prop} {z : Nat} {cur news : List α} {xs ys : List AV} (h : El r z cur xs) (g : El r z news ys) (tl : List α)
    (hcur : cur.length = xs.length * z) : El r z (cur ++ news ++ tl) (xs ++ ys) := by
  refine ⟨fun y hy => (List.mem_append.1 hy).elim (h.zz y) (g.zz y), ?_, fun j i y c hy hc => ?_⟩
  · have := g.le; simp only [List.length_append, Nat.add_mul]; omega
  · by_cases e : j < xs.length
    · rw [List.getElem?_append_left e] at hy
      obtain ⟨v, hv, hr⟩ := h.at_ j i y c hy hc
      have := (List.getElem?_eq_some_iff.1 hv).1
      exact ⟨v, by rw [List.append_assoc, List.getElem?_append_left this]; exact hv, hr⟩
    · rw [List.getElem?_append_right (by omega)] at hy
      obtain ⟨v, hv, hr⟩ := g.at_ _ i y c hy hc
      have := (List.getElem?_eq_some_iff.1 hv).1
      refine ⟨v, ?_, hr⟩
      have e2 : j * z + i = xs.length * z + ((j - xs.length) * z + i) := by
        rw [Nat.sub_mul]; have : xs.length * z ≤ j * z := Nat.mul_le_mul_right z (by omega); omega
      rw [List.append_assoc, List.getElem?_append_right (by omega), hcur, e2, Nat.add_sub_cancel_left, List.getElem?_append_left this]
      exact hv

theorem El.take {α : Type} {r : α → AV → Prop} {z : Nat} {cur : List α} {xs : List AV} (h : El r z cur xs) (n : Nat) (hn : n ≤ xs.length) :
    El r z (cur.take (n * z)) (xs.take n) := by
  have hle := h.le
  have h1 : n * z ≤ xs.length * z := Nat.mul_le_mul_right z hn
  refine ⟨fun y hy => h.zz y (List.mem_of_mem_take hy), by rw [List.length_take, List.length_take]; rw [Nat.min_eq_left hn]; omega, fun j i y c hy hc => ?_⟩
  rw [List.getElem?_take] at hy
  split at hy
  · rename_i hj
    obtain ⟨_, hi⟩ := h.lt hy hc
    obtain ⟨v, hv, hr⟩ := h.at_ j i y c hy hc
    refine ⟨v, ?_, hr⟩
    have : (j + 1) * z ≤ n * z := Nat.mul_le_mul_right z hj
    rw [Nat.add_mul] at this
    rw [List.getElem?_take, if_pos (by omega)]; exact hv
  · cases hy

theorem El.imp {α : Type} {r s : α → AV → Prop} {z : Nat} {cur : List α} {xs : List AV} (h : El r z cur xs) (g : ∀ a b, r a b → s a b) : El s z cur xs :=
  ⟨h.zz, h.le, fun j i x c hx hc => let ⟨v, hv, hr⟩ := h.at_ j i x c hx hc; ⟨v, hv, g _ _ hr⟩⟩

/-- Elements, out of a row for each. -/
theorem El.of_rows {α : Type} {r : α → AV → Prop} {z : Nat} : ∀ (rows : List (List α)) (xs : List AV), Pw (fun (l : List α) x => Pw r l x.cells ∧ x.cells.length = z) rows xs →
    El r z rows.flatten xs
  | [], [], _ => ⟨fun x h => by simp at h, by simp, fun j i x c h => by simp at h⟩
  | [], _ :: _, h => by have := h.1; simp at this
  | _ :: _, [], h => by have := h.1; simp at this
  | l :: rows, x :: xs, h => by
    have hh := h.2 0 l x rfl rfl
    have ih := El.of_rows rows xs ⟨by have := h.1; simpa using this, fun k a b ha hb => h.2 (k + 1) a b (by simpa using ha) (by simpa using hb)⟩
    have h1 : El r z l [x] := by
      refine ⟨fun y hy => by simp at hy; subst hy; exact hh.2, by simp; rw [hh.1.1, hh.2]; exact Nat.le_refl _, fun j i y c hy hc => ?_⟩
      match j with
      | 0 =>
        simp only [List.getElem?_cons_zero, Option.some.injEq] at hy
        subst hy
        obtain ⟨v, hv, hr⟩ := hh.1.ex hc
        exact ⟨v, by simpa using hv, hr⟩
      | j + 1 => simp at hy
    have := El.append h1 ih [] (by simp; rw [hh.1.1, hh.2])
    simpa using this

section
variable {P : Program} {t : Nat} {ti : TI}

theorem TI.Ok.und (h : ti.Ok P t) (w : World) : ∃ d, P.underlying t = some d ∧ (underlying t).run P w = .ok d w ∧ ti.k.ok P d := by
  obtain ⟨d, h1, h2⟩ := h.desc
  exact ⟨d, h1, run_underlying h1 w, h2⟩

theorem TI.Ok.run_sizeOf (h : ti.Ok P t) (w : World) : (sizeOf t).run P w = .ok ti.size w := by
  obtain ⟨i, v, h1, h2, _⟩ := h.info
  simp [sizeOf, typeInfo, h1, h2]

theorem TI.Ok.run_typeInfo (h : ti.Ok P t) (w : World) : ∃ i : TypeInfo, (typeInfo t).run P w = .ok i w ∧ i.size = ti.size ∧ i.bytes = ti.bytes := by
  obtain ⟨i, v, h1, h2, h3, _⟩ := h.info
  exact ⟨i, by simp [typeInfo, h1], h2, h3⟩

theorem TI.Ok.run_zero (h : ti.Ok P t) (w : World) : ∃ v : Value, (zeroValue t).run P w = .ok v w ∧ ofVal v = ti.zero ∧ v.cells.size = ti.size := by
  obtain ⟨i, v, h1, h2, h3, h4, h5, h6⟩ := h.info
  exact ⟨v, by simp [zeroValue, typeInfo, h1, h4], h5, h6⟩

theorem TI.Ok.run_isAgg (h : ti.Ok P t) (w : World) : (isAgg t).run P w = .ok (match ti.k with | .struct _ => true | _ => false) w := by
  obtain ⟨d, h1, h2, h3⟩ := h.und w
  simp only [isAgg, Sem.run_bind, h2, Result.andThen_ok]
  cases hk : ti.k <;> rw [hk] at h3 <;> cases d <;> first | rfl | exact h3.elim

theorem add_add (a : Addr) (m k : Nat) : (a.add m).add k = a.add (m + k) := by
  unfold Addr.add
  by_cases h : m = 0
  · subst h; simp
  · rw [if_neg h]
    by_cases h2 : k = 0
    · subst h2; simp [h]
    · rw [if_neg h2, if_neg (by omega)]; simp [Nat.add_assoc]

theorem add_block (a : Addr) (k : Nat) : (a.add k).block = a.block := by unfold Addr.add; split <;> rfl

theorem add_mk (b o n : Nat) : (⟨b, o, none⟩ : Addr).add n = ⟨b, o + n, none⟩ := by unfold Addr.add; split <;> simp_all

theorem cell_mk {w : World} {g : Nat} {cur : Array Value} {e : TypeId} {fr : Nat × Nat} (h : w.heap[g]? = some (.cells cur e fr)) (k : Nat) : w.cell? ⟨g, k, none⟩ = cur[k]? := by
  simp [World.cell?, h]

/-- A load of a value of a type, of cells that are known. -/
theorem run_loadVar_of (h : ti.Ok P t) {w : World} {f : Phi} {own : Nat → Prop} (a : Addr) (vs : List Value) (cs : List AV)
    (hc : ∀ (k : Nat) u, vs[k]? = some u → w.cell? (a.add k) = some u) (hr : Pw (R w f own) vs cs) (hl : ti.size ≤ cs.length) :
    ∃ r, (loadVar t a).run P w = .ok r w ∧ R w f own r (mkv ti cs) := by
  have hlv := hr.1
  have hag := h.run_isAgg w
  have hsz := h.run_sizeOf w
  have hpos := h.pos.1
  have hone := h.one
  simp only [loadVar, Sem.run_bind, hag, Result.andThen_ok]
  unfold mkv
  cases hk : ti.k with
  | struct fs =>
    simp only [if_true]
    have hload := run_loadCells_list (P := P) w a (vs.take ti.size) (fun j v hj => by
      rw [List.getElem?_take] at hj
      split at hj
      · exact hc j v hj
      · cases hj)
    rw [List.length_take, Nat.min_eq_left (by omega)] at hload
    refine ⟨.agg (vs.take ti.size).toArray, by simp [hsz, hload], ?_⟩
    have := hr.take ti.size
    exact .agg _ _ this.1 this.2
  | _ =>
    simp only [if_false, Bool.false_eq_true]
    rw [hk] at hone
    simp only at hone
    match cs, vs, hr, hl, hc with
    | [], _, _, hl, _ => simp at hl; omega
    | c :: cs, [], hr, _, _ => have := hr.1; simp at this
    | c :: cs, v :: vs, hr, _, hc =>
      have h0 := hc 0 v rfl
      have e : a.add 0 = a := by simp [Addr.add]
      rw [e] at h0
      exact ⟨v, by simp [h0], hr.2 0 v c rfl rfl⟩

/-- A store of a value of a type, into a row of the call's own. -/
theorem run_storeVar_of (h : ti.Ok P t) {w : World} (g o : Nat) (e : TypeId) (cur : Array Value) (hg : w.heap[g]? = some (.cells cur e (0, 0))) (v : Value) (vs : List Value)
    (hv : v.cells = vs.toArray) (hl : vs.length = ti.size) (h1 : ∀ u ∈ vs, u.oneCell' = true) (hfit : o + vs.length ≤ cur.size) :
    (storeVar t ⟨g, o, none⟩ v).run P w = .ok () (w.setRow g (splice cur.toList o vs).toArray) := by
  have hst := run_storeCells_at P g o e vs 0 cur w hg (by simpa using hfit) h1
  simp only [Nat.add_zero] at hst
  simp only [storeVar, Sem.run_bind, h.run_sizeOf w, Result.andThen_ok, hv, List.size_toArray, hl, ne_eq, not_true_eq_false, if_false]
  exact hst
end

end Go.Proofs.YtbknlijpkabcnaaGreat.K
