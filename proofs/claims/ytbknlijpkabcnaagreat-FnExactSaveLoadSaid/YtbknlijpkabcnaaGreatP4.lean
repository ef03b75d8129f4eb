/- Books: what both sides look at. No condition. -/
import Derived.Test.YtbknlijpkabcnaaGreatP3
namespace Go.Proofs.YtbknlijpkabcnaaGreat.K
set_option linter.all false
open Go
open Classical

theorem ixf {i m : Nat} (h : i < m) (hm : m < 1000000000) : w64 ((i : Int) + 1) = (i : Int) + 1 ∧ Int.toNat (i : Int) = i ∧ (i : Int) < (m : Int) ∧ (0 : Int) ≤ i :=
  ⟨by rw [w64_id] <;> omega, by omega, by omega, by omega⟩

theorem all_el {α R : Type} {l : List α} (F : Nat → Int → Option R) (P : α → Prop) (K fail : Option R) (hl : l.length < 1000000000)
    (hs : ∀ n (i : Nat) x, l[i]? = some x → i < l.length → F (n + 1) (i : Int) = if P x then F n ((i : Int) + 1) else fail)
    (he : ∀ n, F (n + 1) (l.length : Int) = K) : F FUEL 0 = if ∀ x ∈ l, P x then K else fail := by
  have := all_loop (len := l.length) F (fun j => ∀ x, l[j]? = some x → P x) K fail (fun n i hi => ?_) he FUEL 0 (Nat.zero_le _) (FUEL_gt (by omega))
  · rw [show ((0 : Nat) : Int) = 0 from rfl] at this
    rw [this]
    have e : (∀ j, 0 ≤ j → j < l.length → ∀ x, l[j]? = some x → P x) ↔ ∀ x ∈ l, P x :=
      ⟨fun h x hx => by obtain ⟨j, hj, rfl⟩ := List.mem_iff_getElem.1 hx; exact h j (Nat.zero_le _) hj _ (List.getElem?_eq_getElem hj), fun h j _ _ x hx => h x (List.mem_of_getElem? hx)⟩
    simp only [e]
  · obtain ⟨x, hx⟩ : ∃ x, l[i]? = some x := ⟨_, List.getElem?_eq_getElem hi⟩
    rw [hs n i x hx hi]
    have : (∀ y, l[i]? = some y → P y) ↔ P x := ⟨fun h => h x hx, fun h y hy => by rw [hx] at hy; cases hy; exact h⟩
    simp only [this]; rfl

theorem find_loop {α R : Type} {l : List α} (F : Nat → Int → Option R) (p : α → Bool) (f : α → R) (d : R) (hl : l.length < 1000000000)
    (hs : ∀ n (i : Nat) x, l[i]? = some x → i < l.length → F (n + 1) (i : Int) = if p x = true then some (f x) else F n ((i : Int) + 1))
    (he : ∀ n, F (n + 1) (l.length : Int) = some d) : F FUEL 0 = some (((l.find? p).map f).getD d) := by
  have h := scan (l := l) (S := Unit) (fun n _ i => F n i) (fun _ x k => if p x = true then some (f x) else k ()) (fun _ => some d) hl (fun n _ i x hx hi => hs n i x hx hi)
    (fun _ x f g hfg => by split <;> simp [hfg]) (fun n _ => he n) ()
  rw [h]
  clear h hs he hl
  induction l with
  | nil => rfl
  | cons x l ih =>
    simp only [goL, List.find?_cons]
    cases hp : p x <;> simp [ih]

def kA (l : List MAccount) (no : Int) : Int := ((l.find? (fun x => decide (x.No = no))).map (·.Kind)).getD 0
def kI (l : List MInstr) (no : Int) : Int := ((l.find? (fun x => decide (x.No = no))).map (·.Kind)).getD 0
theorem i_accountKind_eq (l : List MAccount) (no : Int) (hl : l.length < 1000000000) : i_accountKind l no = some (kA l no) := by
  unfold i_accountKind kA
  refine find_loop (i_accountKind_L1 l no _) _ _ 0 hl (fun n i x hx hi => ?_) (fun n => ?_)
  · obtain ⟨e1, e2, h1, h2⟩ := ixf hi hl
    rw [i_accountKind_L1.eq_2]
    simp only [ln_map, e1, e2, hx, Option.bind_some, h1, h2, if_true, decide_eq_true_eq]
  · rw [i_accountKind_L1.eq_2]; simp [ln_map]
theorem i_instrKind_eq (l : List MInstr) (no : Int) (hl : l.length < 1000000000) : i_instrKind l no = some (kI l no) := by
  unfold i_instrKind kI
  refine find_loop (i_instrKind_L1 l no _) _ _ 0 hl (fun n i x hx hi => ?_) (fun n => ?_)
  · obtain ⟨e1, e2, h1, h2⟩ := ixf hi hl
    rw [i_instrKind_L1.eq_2]
    simp only [ln_map, e1, e2, hx, Option.bind_some, h1, h2, if_true, decide_eq_true_eq]
  · rw [i_instrKind_L1.eq_2]; simp [ln_map]
theorem s_AccountKind_eq (l : List MAccount) (no : Int) (hl : l.length < 1000000000) (ho : AccOk l) : s_AccountKind l no = some (kA l no) := by
  unfold s_AccountKind kA
  refine find_loop (s_AccountKind_L1 l no _) _ _ 0 hl (fun n i x hx hi => ?_) (fun n => ?_)
  · obtain ⟨e1, e2, h1, h2⟩ := ixf hi hl
    rw [s_AccountKind_L1.eq_2]
    simp only [ln_map, e1, e2, hx, Option.bind_some, h1, h2, if_true, decide_eq_true_eq, s_AccountsOk_eq l hl, ho]
  · rw [s_AccountKind_L1.eq_2]; simp [ln_map]
theorem s_InstrKind_eq (l : List MInstr) (no : Int) (hl : l.length < 1000000000) (ho : InsOk l) : s_InstrKind l no = some (kI l no) := by
  unfold s_InstrKind kI
  refine find_loop (s_InstrKind_L1 l no _) _ _ 0 hl (fun n i x hx hi => ?_) (fun n => ?_)
  · obtain ⟨e1, e2, h1, h2⟩ := ixf hi hl
    rw [s_InstrKind_L1.eq_2]
    simp only [ln_map, e1, e2, hx, Option.bind_some, h1, h2, if_true, decide_eq_true_eq, s_InstrsOk_eq l hl, ho]
  · rw [s_InstrKind_L1.eq_2]; simp [ln_map]

/-- All amounts of an instrument. -/
def sB (l : List MBal) (i : Int) : Int := ((l.filter fun x => decide (x.Instr = i)).map (·.Amount)).sum
theorem sB_go (i : Int) (l : List MBal) : ∀ (s : Int), (∀ x ∈ l, balForm x) → s ≤ 1000000000000000000 - l.length * 1000000000000000 → -1000000000000000000 + l.length * 1000000000000000 ≤ s →
    goL (R := Int) (fun s x k => if x.Instr = i then k (w64 (s + x.Amount)) else k s) (fun s => some s) l s = some (s + sB l i) := by
  induction l with
  | nil => intro s _ _ _; simp [goL, sB]
  | cons x l ih =>
    intro s hf h1 h2
    have hx := (hf x (List.mem_cons_self ..)).2.2.1
    unfold amt at hx
    rw [List.length_cons] at h1 h2
    have hf' : ∀ y ∈ l, balForm y := fun y hy => hf y (List.mem_cons_of_mem _ hy)
    simp only [goL]
    by_cases h : x.Instr = i
    · rw [if_pos h, w64_id (by omega) (by omega), ih _ hf' (by omega) (by omega)]
      simp [sB, h, Int.add_assoc]
    · rw [if_neg h, ih _ hf' (by omega) (by omega)]
      simp [sB, h]
theorem i_balsSum_eq (l : List MBal) (i : Int) (ho : BalOk l) : i_balsSum l i = some (sB l i) := by
  have hl : l.length < 1000000000 := by have := ho.2; omega
  unfold i_balsSum
  have h := scan (l := l) (S := Int) (fun n s j => i_balsSum_L1 l i (fun w => some w) n (s, j)) (fun s x k => if x.Instr = i then k (w64 (s + x.Amount)) else k s) (fun s => some s) hl
    (fun n s j x hx hj => by
      obtain ⟨e1, e2, h1, h2⟩ := ixf hj hl
      rw [i_balsSum_L1.eq_2]
      simp only [ln_map, e1, e2, hx, Option.bind_some, h1, h2, if_true])
    (fun s x f g hfg => by split <;> exact hfg _)
    (fun n s => by rw [i_balsSum_L1.eq_2]; simp [ln_map]) 0
  rw [h, sB_go i l 0 (Chk_mem ho.1) (by have := ho.2; omega) (by have := ho.2; omega)]
  simp
theorem s_BalsSum_eq (l : List MBal) (i : Int) (ho : BalOk l) : s_BalsSum l i = some (if amt (sB l i) then (sB l i, true) else (0, false)) := by
  have hl : l.length < 1000000000 := by have := ho.2; omega
  unfold s_BalsSum
  have h := scan (l := l) (S := Int) (R := Int × Bool) (fun n s j => s_BalsSum_L1 l i (fun w19 => (Option.bind (s_BalsOk l) fun y20 => (Option.bind (s_l1Told w19 y20) fun y22 => some (y22.1, y22.2)))) n (s, j))
    (fun s x k => if x.Instr = i then k (w64 (s + x.Amount)) else k s) (fun w19 => (Option.bind (s_BalsOk l) fun y20 => (Option.bind (s_l1Told w19 y20) fun y22 => some (y22.1, y22.2)))) hl
    (fun n s j x hx hj => by
      obtain ⟨e1, e2, h1, h2⟩ := ixf hj hl
      rw [s_BalsSum_L1.eq_2]
      simp only [ln_map, e1, e2, hx, Option.bind_some, h1, h2, if_true, s_BalsOk_eq l hl, ho, decide_true])
    (fun s x f g hfg => by split <;> exact hfg _)
    (fun n s => by rw [s_BalsSum_L1.eq_2]; simp [ln_map]) 0
  rw [h]
  have key : ∀ (k : Int → Option (Int × Bool)) (m : List MBal) (s : Int), goL (fun s (x : MBal) k => if x.Instr = i then k (w64 (s + x.Amount)) else k s) k m s =
      (goL (fun s (x : MBal) k => if x.Instr = i then k (w64 (s + x.Amount)) else k s) (fun s => some s) m s).bind k := by
    intro k m
    induction m with
    | nil => intro s; rfl
    | cons x m ih => intro s; simp only [goL]; split <;> exact ih _
  rw [key, sB_go i l 0 (Chk_mem ho.1) (by have := ho.2; omega) (by have := ho.2; omega), Option.bind_some, s_BalsOk_eq l hl, Option.bind_some]
  simp only [ho, decide_true, Int.zero_add, s_l1Told, s_AmountOk_eq, Option.bind_some, not_true_eq_false, if_false]
  by_cases h : amt (sB l i)
  · rw [if_pos h]; unfold amt at h; simp [h]
  · rw [if_neg h]; unfold amt at h; simp [h]

/-- A balance. -/
def oB (l : List MBal) (a i : Int) : Int := ((l.find? (fun x => decide (x.Account = a ∧ x.Instr = i))).map (·.Amount)).getD 0
theorem s_l4Of_eq (l : List MBal) (a i : Int) (hl : l.length < 1000000000) : s_l4Of l a i = some (oB l a i) := by
  unfold s_l4Of oB
  refine find_loop (s_l4Of_L1 l a i _) _ _ 0 hl (fun n j x hx hj => ?_) (fun n => ?_)
  · obtain ⟨e1, e2, h1, h2⟩ := ixf hj hl
    rw [s_l4Of_L1.eq_2]
    simp only [ln_map, e1, e2, hx, Option.bind_some, h1, h2, if_true, decide_eq_true_eq]
    by_cases k1 : x.Account = a <;> by_cases k2 : x.Instr = i <;> simp [k1, k2]
  · rw [s_l4Of_L1.eq_2]; simp [ln_map]

theorem first_loop {α R : Type} {l : List α} (F : Nat → Int → Option R) (p : α → Bool) (g : Int → α → R) (K : Option R) (hl : l.length < 1000000000)
    (hs : ∀ n (i : Nat) x, l[i]? = some x → i < l.length → F (n + 1) (i : Int) = if p x = true then some (g (i : Int) x) else F n ((i : Int) + 1))
    (he : ∀ n, F (n + 1) (l.length : Int) = K) : (∀ (i : Nat) (hi : i < l.length), p l[i] = true → (∀ (j : Nat) (hj : j < i), p l[j] = false) → F FUEL 0 = some (g i l[i])) ∧ ((∀ x ∈ l, p x = false) → F FUEL 0 = K) := by
  have key : ∀ n (i : Nat), i ≤ l.length → l.length - i < n → (∀ (k : Nat) (hk : k < l.length), i ≤ k → p l[k] = true → (∀ (j : Nat) (hj : j < k), i ≤ j → p l[j] = false) → F n (i : Int) = some (g k l[k])) ∧ ((∀ (k : Nat) (hk : k < l.length), i ≤ k → p l[k] = false) → F n (i : Int) = K) := by
    intro n
    induction n with
    | zero => intro i _ h; omega
    | succ n ih =>
      intro i hi hn
      rcases Nat.lt_or_ge i l.length with h | h
      · rw [hs n i l[i] (List.getElem?_eq_getElem h) h]
        have IH := ih (i + 1) h (by omega)
        rw [show ((i + 1 : Nat) : Int) = (i : Int) + 1 from rfl] at IH
        constructor
        · intro k hk hik hp hj
          by_cases e : i = k
          · subst e; rw [if_pos hp]
          · have := hj i (by omega) (Nat.le_refl _)
            rw [if_neg (by rw [this]; simp)]
            exact IH.1 k hk (by omega) hp fun j h1 h2 => hj j h1 (by omega)
        · intro hk
          rw [if_neg (by rw [hk i h (Nat.le_refl _)]; simp)]
          exact IH.2 fun k h1 h2 => hk k h1 (by omega)
      · have : i = l.length := by omega
        subst this
        exact ⟨fun k hk h1 => by omega, fun _ => he n⟩
  have := key FUEL 0 (Nat.zero_le _) (FUEL_gt (by omega))
  rw [show ((0 : Nat) : Int) = 0 from rfl] at this
  exact ⟨fun i hi hp hj => this.1 i hi (Nat.zero_le _) hp fun j h1 _ => hj j h1, fun h => this.2 fun k hk _ => h _ (List.getElem_mem hk)⟩

/-- In a list in order what stands behind is greater. -/
theorem chk_lt {l : List MBal} (h : Chk balForm balAdj l) : ∀ (d i : Nat) (x y : MBal), l[i]? = some x → l[i + d + 1]? = some y → pLt x.Account x.Instr y.Account y.Instr
  | 0, i, x, y, hx, hy => (h (i + 1) y hy).2 (by omega) x hx
  | d + 1, i, x, y, hx, hy => by
    have hlt := (List.getElem?_eq_some_iff.1 hy).1
    have hz : l[i + d + 1]? = some (l[i + d + 1]'(by omega)) := List.getElem?_eq_getElem _
    exact pLt_trans (chk_lt h d i x _ hx hz) ((h (i + (d + 1) + 1) y hy).2 (by omega) _ hz)

theorem i_balOf_eq (l : List MBal) (a i : Int) (ho : BalOk l) : i_balOf l a i = some (oB l a i) := by
  have hl : l.length < 1000000000 := by have := ho.2; omega
  unfold i_balOf i_balAt
  obtain ⟨f1, f2⟩ := first_loop (l := l) (i_balAt_L1 l a i (fun _ => some ((ln (List.map MBal.av l)), false))) (fun x => decide (¬ pLt x.Account x.Instr a i)) (fun j x => (j, decide (x.Account = a ∧ x.Instr = i))) (some ((l.length : Int), false)) hl
    (fun n j x hx hj => by
      obtain ⟨e1, e2, h1, h2⟩ := ixf hj hl
      rw [i_balAt_L1.eq_2]
      simp only [ln_map, e1, e2, hx, Option.bind_some, h1, h2, if_true, i_byBoth_eq]
      by_cases k1 : pLt x.Account x.Instr a i
      · simp [k1]
      · by_cases k2 : x.Account = a ∧ x.Instr = i
        · rw [if_neg k1, if_pos k2, if_pos (by omega), if_pos (by simp [k1])]
          have d : decide (x.Account = a ∧ x.Instr = i) = true := decide_eq_true k2
          rw [d]; rfl
        · rw [if_neg k1, if_neg k2, if_pos (by omega), if_pos (by simp [k1])]
          have d : decide (x.Account = a ∧ x.Instr = i) = false := decide_eq_false k2
          rw [d]; rfl)
    (fun n => by rw [i_balAt_L1.eq_2]; simp [ln_map])
  by_cases hex : ∃ x ∈ l, ¬ pLt x.Account x.Instr a i
  · -- the first one that is not below
    have hfi : fi (fun x : MBal => decide (¬ pLt x.Account x.Instr a i)) l ≠ -1 := by
      intro hn
      obtain ⟨x, hx, hp⟩ := hex
      have := fi_neg hn x hx
      simp [hp] at this
    obtain ⟨j, hj, _, hp, hq⟩ := fi_pos hfi
    rw [f1 j hj hp hq, Option.bind_some]
    have hje : l[j]? = some l[j] := List.getElem?_eq_getElem hj
    have h0 : (0 : Int) ≤ j := by omega
    have h3 : Int.toNat (j : Int) = j := by omega
    unfold oB
    by_cases k : l[j].Account = a ∧ l[j].Instr = i
    · have hf : l.find? (fun x => decide (x.Account = a ∧ x.Instr = i)) = some l[j] := by
        rw [List.find?_eq_some_iff_getElem]
        refine ⟨by simp [k], j, hj, rfl, fun q hqj => ?_⟩
        have hq' := hq q hqj
        simp only [Classical.not_not, decide_eq_false_iff_not] at hq'
        simp only [Bool.not_eq_true', decide_eq_false_iff_not]
        intro hc
        rw [hc.1, hc.2] at hq'
        unfold pLt at hq'; omega
      rw [hf]
      simp [k, h0, h3, hje]
    · have hf : l.find? (fun x => decide (x.Account = a ∧ x.Instr = i)) = none := by
        rw [List.find?_eq_none]
        intro x hx hc
        simp only [decide_eq_true_eq] at hc
        obtain ⟨q, hql, rfl⟩ := List.mem_iff_getElem.1 hx
        have hpj : ¬ pLt l[j].Account l[j].Instr a i := by simpa using hp
        rcases Nat.lt_trichotomy q j with h | h | h
        · have hq' := hq q h
          simp only [Classical.not_not, decide_eq_false_iff_not] at hq'
          rw [hc.1, hc.2] at hq'
          unfold pLt at hq'; omega
        · subst h; exact k hc
        · have := chk_lt ho.1 (q - j - 1) j l[j] l[q] hje (by rw [show j + (q - j - 1) + 1 = q by omega]; exact List.getElem?_eq_getElem hql)
          rw [hc.1, hc.2] at this
          exact hpj this
      rw [hf]
      simp [k]
  · have hall : ∀ x ∈ l, (fun x : MBal => decide (¬ pLt x.Account x.Instr a i)) x = false := fun x hx => by
      have : pLt x.Account x.Instr a i := Classical.byContradiction fun h => hex ⟨x, hx, h⟩
      simp [this]
    rw [f2 hall, Option.bind_some]
    have hf : l.find? (fun x => decide (x.Account = a ∧ x.Instr = i)) = none := by
      rw [List.find?_eq_none]
      intro x hx hc
      simp only [decide_eq_true_eq] at hc
      have : pLt x.Account x.Instr a i := Classical.byContradiction fun h => hex ⟨x, hx, h⟩
      rw [hc.1, hc.2] at this
      unfold pLt at this; omega
    unfold oB
    rw [hf]; simp

end Go.Proofs.YtbknlijpkabcnaaGreat.K
