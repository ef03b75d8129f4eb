/- Laws of the plain functions' words. No condition. -/
import Derived.Test.YtbknlijpkabcnaaGreatK27
namespace Go.Proofs.YtbknlijpkabcnaaGreat.K
set_option linter.all false
open Go

theorem w64_id {n : Int} (h1 : -9223372036854775808 ≤ n) (h2 : n ≤ 9223372036854775807) : w64 n = n := by
  unfold w64; rw [IntKind.wrap_i64]; omega
theorem FUEL_gt {n : Nat} (h : n < 4611686018427387904) : n < FUEL := by unfold FUEL; exact h
theorem ln_map {α β : Type} (f : α → β) (l : List α) : ln (l.map f) = l.length := by simp [ln]
theorem ln_eq {α : Type} (l : List α) : ln l = l.length := rfl
theorem bn_lt (x : UInt8) : bn x < 256 := by have := x.toNat_lt; simp [bn]; omega
theorem bn_nn (x : UInt8) : 0 ≤ bn x := by simp [bn]

/-- A loop that looks at each place, and at the one ahead of it. -/
def Chk {α : Type} (form : α → Prop) (adj : α → α → Prop) (l : List α) : Prop :=
  ∀ (j : Nat) x, l[j]? = some x → form x ∧ (0 < j → ∀ p, l[j-1]? = some p → adj p x)

section
open Classical

theorem all_loop {R : Type} {len : Nat} (F : Nat → Int → Option R) (P : Nat → Prop) (K fail : Option R)
    (hs : ∀ n (i : Nat), i < len → F (n + 1) (i : Int) = if P i then F n ((i + 1 : Nat) : Int) else fail)
    (he : ∀ n, F (n + 1) (len : Int) = K) : ∀ n (i : Nat), i ≤ len → len - i < n → F n i = if (∀ j, i ≤ j → j < len → P j) then K else fail := by
  intro n
  induction n with
  | zero => intro i _ h; omega
  | succ n ih =>
    intro i hi hn
    rcases Nat.lt_or_ge i len with h | h
    · rw [hs n i h]
      by_cases hp : P i
      · rw [if_pos hp, ih (i + 1) h (by omega)]
        have : (∀ j, i + 1 ≤ j → j < len → P j) ↔ (∀ j, i ≤ j → j < len → P j) := by
          constructor
          · intro q j h1 h2
            rcases Nat.lt_or_ge i j with h3 | h3
            · exact q j h3 h2
            · have : j = i := by omega
              subst this; exact hp
          · intro q j h1 h2; exact q j (by omega) h2
        simp only [this]
      · rw [if_neg hp, if_neg (fun q => hp (q i (Nat.le_refl _) h))]
    · have : i = len := by omega
      subst this
      rw [he n, if_pos (fun j h1 h2 => by omega)]

theorem chk_loop {α R : Type} {l : List α} (F : Nat → Int → Option R) (form : α → Prop) (adj : α → α → Prop) (K fail : Option R) (hl : l.length < 1000000000)
    (h0 : ∀ n x, l[0]? = some x → F (n + 1) 0 = if form x then F n 1 else fail)
    (h1 : ∀ n (j : Nat) p x, l[j]? = some p → l[j+1]? = some x → j + 1 < l.length → F (n + 1) ((j : Int) + 1) = if form x ∧ adj p x then F n ((j : Int) + 2) else fail)
    (he : ∀ n, F (n + 1) (l.length : Int) = K) : F FUEL 0 = if Chk form adj l then K else fail := by
  have := all_loop (len := l.length) F (fun j => ∀ x, l[j]? = some x → form x ∧ (0 < j → ∀ p, l[j-1]? = some p → adj p x)) K fail (fun n i hi => ?_) he FUEL 0 (Nat.zero_le _) (FUEL_gt (by omega))
  · rw [show ((0 : Nat) : Int) = 0 from rfl] at this
    rw [this]
    have e : (∀ j, 0 ≤ j → j < l.length → ∀ x, l[j]? = some x → form x ∧ (0 < j → ∀ p, l[j-1]? = some p → adj p x)) ↔ Chk form adj l :=
      ⟨fun h j x hx => h j (Nat.zero_le _) (List.getElem?_eq_some_iff.1 hx).1 x hx, fun h j _ _ x hx => h j x hx⟩
    simp only [e]
  · obtain ⟨x, hx⟩ : ∃ x, l[i]? = some x := ⟨_, List.getElem?_eq_getElem hi⟩
    match i with
    | 0 =>
      rw [show ((0 : Nat) : Int) = 0 from rfl, h0 n x hx]
      have : (∀ y, l[0]? = some y → form y ∧ (0 < 0 → ∀ p, l[0-1]? = some p → adj p y)) ↔ form x :=
        ⟨fun h => (h x hx).1, fun h y hy => by rw [hx] at hy; cases hy; exact ⟨h, fun h => by omega⟩⟩
      simp only [this]; rfl
    | j + 1 =>
      obtain ⟨p, hp⟩ : ∃ p, l[j]? = some p := ⟨_, List.getElem?_eq_getElem (by omega)⟩
      rw [show ((j + 1 : Nat) : Int) = (j : Int) + 1 from rfl, h1 n j p x hp hx hi]
      have : (∀ y, l[j+1]? = some y → form y ∧ (0 < j + 1 → ∀ p, l[j+1-1]? = some p → adj p y)) ↔ (form x ∧ adj p x) := by
        constructor
        · intro h; exact ⟨(h x hx).1, (h x hx).2 (by omega) p hp⟩
        · intro h y hy
          rw [hx] at hy; cases hy
          refine ⟨h.1, fun _ q hq => ?_⟩
          rw [Nat.add_sub_cancel, hp] at hq; cases hq; exact h.2
      simp only [this]; rfl

/-- A walk over a list, with a state; a round goes on or ends. -/
def goL {α S R : Type} (step : S → α → (S → Option R) → Option R) (k : S → Option R) : List α → S → Option R
  | [], s => k s
  | x :: l, s => step s x (goL step k l)

theorem scan {α S R : Type} {l : List α} (F : Nat → S → Int → Option R) (step : S → α → (S → Option R) → Option R) (k : S → Option R) (hl : l.length < 1000000000)
    (hs : ∀ n s (i : Nat) x, l[i]? = some x → i < l.length → F (n + 1) s (i : Int) = step s x (fun s' => F n s' ((i : Int) + 1)))
    (hc : ∀ s x (f g : S → Option R), (∀ s', f s' = g s') → step s x f = step s x g)
    (he : ∀ n s, F (n + 1) s (l.length : Int) = k s) (s : S) : F FUEL s 0 = goL step k l s := by
  have key : ∀ n (i : Nat) s, i ≤ l.length → l.length - i < n → F n s (i : Int) = goL step k (l.drop i) s := by
    intro n
    induction n with
    | zero => intro i s _ h; omega
    | succ n ih =>
      intro i s hi hn
      rcases Nat.lt_or_ge i l.length with h | h
      · rw [hs n s i l[i] (List.getElem?_eq_getElem h) h, List.drop_eq_getElem_cons h]
        exact hc _ _ _ _ fun s' => ih (i + 1) s' h (by omega)
      · have : i = l.length := by omega
        subst this
        rw [he, List.drop_length]; rfl
  exact key FUEL 0 s (Nat.zero_le _) (FUEL_gt (by omega))

/-- Where the first one stands that is looked for, or -1. -/
def fi {α : Type} (p : α → Bool) (l : List α) : Int := match l.findIdx? p with
  | some i => i
  | none => -1

theorem idx_loop {α : Type} {l : List α} (F : Nat → Int → Option Int) (p : α → Bool) (hl : l.length < 1000000000)
    (hs : ∀ n (i : Nat) x, l[i]? = some x → i < l.length → F (n + 1) (i : Int) = if p x = true then some (i : Int) else F n ((i : Int) + 1))
    (he : ∀ n, F (n + 1) (l.length : Int) = some (-1)) : F FUEL 0 = some (fi p l) := by
  have key : ∀ n (i : Nat), i ≤ l.length → l.length - i < n → F n (i : Int) = some (match (l.drop i).findIdx? p with | some j => ((i + j : Nat) : Int) | none => -1) := by
    intro n
    induction n with
    | zero => intro i _ h; omega
    | succ n ih =>
      intro i hi hn
      rcases Nat.lt_or_ge i l.length with h | h
      · rw [hs n i l[i] (List.getElem?_eq_getElem h) h, List.drop_eq_getElem_cons h, List.findIdx?_cons]
        by_cases hp : p l[i] = true
        · simp [hp]
        · rw [if_neg hp, if_neg hp]
          have := ih (i + 1) h (by omega)
          rw [show ((i + 1 : Nat) : Int) = (i : Int) + 1 from rfl] at this
          rw [this]
          cases (l.drop (i + 1)).findIdx? p with
          | none => rfl
          | some j =>
            show some (((i + 1 + j : Nat) : Int)) = some (((i + (j + 1) : Nat) : Int))
            rw [show i + 1 + j = i + (j + 1) by omega]
      · have : i = l.length := by omega
        subst this
        rw [he, List.drop_length]; rfl
  have := key FUEL 0 (Nat.zero_le _) (FUEL_gt (by omega))
  rw [show ((0 : Nat) : Int) = 0 from rfl] at this
  rw [this, List.drop_zero]
  unfold fi
  cases l.findIdx? p <;> simp

theorem fi_neg {α : Type} {p : α → Bool} {l : List α} (h : fi p l = -1) : ∀ x ∈ l, p x = false := by
  unfold fi at h
  cases hf : l.findIdx? p with
  | none => rw [List.findIdx?_eq_none_iff] at hf; exact hf
  | some i => rw [hf] at h; simp only at h; omega
theorem fi_pos {α : Type} {p : α → Bool} {l : List α} (h : fi p l ≠ -1) : ∃ (i : Nat) (hi : i < l.length), fi p l = i ∧ p l[i] = true ∧ ∀ (j : Nat) (hj : j < i), p l[j] = false := by
  unfold fi at h ⊢
  cases hf : l.findIdx? p with
  | none => rw [hf] at h; exact absurd rfl h
  | some i =>
    obtain ⟨h1, h2, h3⟩ := List.findIdx?_eq_some_iff_getElem.1 hf
    exact ⟨i, h1, rfl, h2, fun j hj => by simpa using h3 j hj⟩
theorem fi_any {α : Type} (p : α → Bool) (l : List α) : (0 ≤ fi p l) ↔ ∃ x ∈ l, p x = true := by
  constructor
  · intro h
    obtain ⟨i, hi, _, h2, _⟩ := fi_pos (p := p) (l := l) (by omega)
    exact ⟨l[i], List.getElem_mem hi, h2⟩
  · rintro ⟨x, hx, hp⟩
    by_cases h : fi p l = -1
    · rw [fi_neg h x hx] at hp; cases hp
    · obtain ⟨i, _, e, _⟩ := fi_pos h; omega

/-- What stands behind the shifted ones is struck. -/
theorem del_loop {α R : Type} {N : Nat} (F : Nat → List α → Int → Int → Option R) (keep : α → Bool) (K : List α → R) (hN : N < 1000000000)
    (hs : ∀ n (v : List α) (i j : Nat) x, v.length = N → v[j]? = some x → i ≤ j → j < N → F (n + 1) v (i : Int) (j : Int) = if keep x = true then F n (v.set i x) ((i : Int) + 1) ((j : Int) + 1) else F n v (i : Int) ((j : Int) + 1))
    (he : ∀ n (v : List α) (i : Nat), v.length = N → i ≤ N → F (n + 1) v (i : Int) (N : Int) = some (K (v.take i))) :
    ∀ n (v : List α) (i j : Nat), v.length = N → i ≤ j → j ≤ N → N - j < n → F n v (i : Int) (j : Int) = some (K (v.take i ++ (v.drop j).filter keep)) := by
  intro n
  induction n with
  | zero => intro v i j _ _ _ h; omega
  | succ n ih =>
    intro v i j hv hij hj hn
    rcases Nat.lt_or_ge j N with h | h
    · have hjv : j < v.length := by omega
      rw [hs n v i j v[j] hv (List.getElem?_eq_getElem hjv) hij h, List.drop_eq_getElem_cons hjv]
      by_cases hk : keep v[j] = true
      · rw [if_pos hk]
        have := ih (v.set i v[j]) (i + 1) (j + 1) (by rw [List.length_set]; exact hv) (by omega) (by omega) (by omega)
        rw [show ((i + 1 : Nat) : Int) = (i : Int) + 1 from rfl, show ((j + 1 : Nat) : Int) = (j : Int) + 1 from rfl] at this
        rw [this, List.drop_set_of_lt (by omega), List.filter_cons_of_pos hk, List.take_succ_eq_append_getElem (by rw [List.length_set]; omega), List.take_set_of_le (Nat.le_refl _), List.getElem_set_self, List.append_assoc]
        rfl
      · rw [if_neg hk]
        have := ih v i (j + 1) hv (by omega) (by omega) (by omega)
        rw [show ((j + 1 : Nat) : Int) = (j : Int) + 1 from rfl] at this
        rw [this, List.filter_cons_of_neg hk]
    · have : j = N := by omega
      subst this
      rw [he n v i hv (by omega), ← hv, List.drop_length]; simp

theorem take_filter {α : Type} {p : α → Bool} {l : List α} {i : Nat} (hi : i < l.length) (h1 : p l[i] = true) (h2 : ∀ (j : Nat) (hj : j < i), p l[j] = false) :
    l.take i ++ (l.drop (i + 1)).filter (fun x => !p x) = l.filter (fun x => !p x) := by
  conv => rhs; rw [← List.take_append_drop i l, List.filter_append, List.drop_eq_getElem_cons hi, List.filter_cons_of_neg (by simp [h1])]
  congr 1
  symm
  rw [List.filter_eq_self]
  intro x hx
  obtain ⟨j, hj, rfl⟩ := List.mem_iff_getElem.1 hx
  rw [List.length_take] at hj
  rw [List.getElem_take, h2 j (by omega)]; rfl

end
end Go.Proofs.YtbknlijpkabcnaaGreat.K
