/- Lots: both sides. No condition. -/
import Derived.Test.YtbknlijpkabcnaaGreatP1
namespace Go.Proofs.YtbknlijpkabcnaaGreat.K
set_option linter.all false
open Go
open Classical

def lotForm (x : MLot) : Prop := (1 ≤ x.Account ∧ x.Account ≤ 1000) ∧ (1 ≤ x.Instr ∧ x.Instr ≤ 1000) ∧ (1 ≤ x.No ∧ x.No ≤ 1000000000) ∧ (1 ≤ x.Qty ∧ x.Qty ≤ 1000000000000000) ∧ (0 ≤ x.Cost ∧ x.Cost ≤ 1000000000000000)
def lotAdj (p x : MLot) : Prop := pLt p.Account p.Instr x.Account x.Instr ∨ p.Account = x.Account ∧ p.Instr = x.Instr ∧ p.No < x.No
def isOwn (a i : Int) (x : MLot) : Bool := decide (x.Account = a) && decide (x.Instr = i)
def own (l : List MLot) (a i : Int) : List MLot := l.filter (isOwn a i)
def sQ (l : List MLot) : Int := (l.map (·.Qty)).sum
def sC (l : List MLot) : Int := (l.map (·.Cost)).sum
def LotOk (l : List MLot) : Prop := Chk lotForm lotAdj l ∧ l.length ≤ 120 ∧ ∀ x ∈ l, amt (sQ (own l x.Account x.Instr)) ∧ amt (sC (own l x.Account x.Instr))

theorem i_lotForm_eq (x : MLot) : i_lotForm x = some (decide (lotForm x)) := by
  simp only [i_lotForm, i_isNo_eq, i_in_eq, lotForm, Option.bind_some]; grind
theorem s_l5Right_eq (x : MLot) : s_l5Right x = some (decide (lotForm x)) := by
  simp only [s_l5Right, s_l3No_eq, s_l1In_eq, s_l1Some_eq, lotForm, Option.bind_some]; grind
theorem i_lotBefore_eq (p x : MLot) : ∃ r, i_lotBefore p x = some r ∧ ((0 ≤ r) ↔ ¬ lotAdj p x) := by
  simp only [i_lotBefore, i_byBoth_eq, lotAdj, Option.bind_some]
  by_cases h1 : pLt p.Account p.Instr x.Account x.Instr
  · exact ⟨-1, by simp [h1], by simp [h1]⟩
  · by_cases h2 : p.Account = x.Account ∧ p.Instr = x.Instr
    · by_cases h3 : p.No < x.No
      · exact ⟨-1, by simp [h1, h2, h3], by simp [h2, h3]⟩
      · by_cases h4 : x.No < p.No
        · exact ⟨1, by rw [if_neg h1, if_pos h2]; simp [h3, h4], by simp [h1, h3]⟩
        · exact ⟨0, by rw [if_neg h1, if_pos h2]; simp [h3, h4], by simp [h1, h3]⟩
    · refine ⟨1, by simp [h1, h2], ?_⟩
      have : ¬ (p.Account = x.Account ∧ p.Instr = x.Instr ∧ p.No < x.No) := fun h => h2 ⟨h.1, h.2.1⟩
      simp [h1, this]
theorem s_l5Before_eq (p x : MLot) : s_l5Before p x = some (decide (lotAdj p x)) := by
  simp only [s_l5Before, s_l4Before_eq, lotAdj, Option.bind_some, pLt]; grind
theorem i_isLot_eq (x : MLot) (a i : Int) : i_isLot x a i = some (isOwn a i x) := by
  simp only [i_isLot, isOwn]; grind
theorem i_lotsOf_c1_eq (x : MLot) (a i : Int) : i_lotsOf_c1 x a i = some (!isOwn a i x) := by
  simp [i_lotsOf_c1, i_isLot_eq]

theorem g_IndexFunc_Lot_s1_eq (l : List MLot) (a i : Int) (hl : l.length < 1000000000) : g_IndexFunc_Lot_s1 l a i = some (fi (fun x => !isOwn a i x) l) := by
  unfold g_IndexFunc_Lot_s1
  refine idx_loop (g_IndexFunc_Lot_s1_L1 l a i _) _ hl (fun n j x hx hj => ?_) (fun n => ?_)
  · rw [g_IndexFunc_Lot_s1_L1.eq_2]
    have e1 : w64 ((j : Int) + 1) = (j : Int) + 1 := by rw [w64_id] <;> omega
    have e2 : Int.toNat (j : Int) = j := by omega
    simp only [ln_map, e1, e2, hx, Option.bind_some, i_lotsOf_c1_eq]
    grind
  · rw [g_IndexFunc_Lot_s1_L1.eq_2]; simp [ln_map]

theorem g_DeleteFunc_Lot_L1_eq (a i : Int) (k : List MLot × Int → Option (List MLot)) (N : Nat) (hN : N < 1000000000) (hk : ∀ (v : List MLot) (p : Nat), v.length = N → p ≤ N → k (v, (p : Int)) = some (v.take p)) :
    ∀ n (v : List MLot) (p q : Nat), v.length = N → p ≤ q → q ≤ N → N - q < n → g_DeleteFunc_Lot_L1 a i k n (v, (p : Int), (q : Int)) = some (v.take p ++ (v.drop q).filter (isOwn a i)) := by
  refine del_loop (K := id) (fun n v p q => g_DeleteFunc_Lot_L1 a i k n (v, p, q)) (isOwn a i) hN (fun n v p q x hv hx hpq hq => ?_) (fun n v p hv hp => ?_)
  · rw [g_DeleteFunc_Lot_L1.eq_2]
    have e1 : w64 ((p : Int) + 1) = (p : Int) + 1 := by rw [w64_id] <;> omega
    have e2 : w64 ((q : Int) + 1) = (q : Int) + 1 := by rw [w64_id] <;> omega
    have e3 : Int.toNat (p : Int) = p := by omega
    have e4 : Int.toNat (q : Int) = q := by omega
    have hp : v[p]? = some (v[p]'(by omega)) := List.getElem?_eq_getElem _
    have h1 : (q : Int) < (v.length : Int) := by omega
    have h2 : (p : Int) < (v.length : Int) := by omega
    have h3 : (0 : Int) ≤ q := by omega
    have h4 : (0 : Int) ≤ p := by omega
    simp only [ln_map, e1, e2, e3, e4, hx, hp, Option.bind_some, i_lotsOf_c1_eq, h1, h2, h3, h4, and_self, if_true]
    cases isOwn a i x <;> rfl
  · rw [g_DeleteFunc_Lot_L1.eq_2]
    have h1 : ¬ ((N : Int) < (v.length : Int)) := by omega
    simp only [ln_map, h1, if_false]
    exact hk v p hv hp

theorem del_tail {α : Type} (v : List α) (z : α) (p : Nat) (hp : p ≤ v.length) : List.take (p - 0) (List.take p v ++ List.replicate (v.length - p) z ++ List.drop (p + (v.length - p)) v) = v.take p := by
  rw [Nat.sub_zero, List.append_assoc, List.take_append_of_le_length (by rw [List.length_take]; omega), List.take_take, Nat.min_self]

theorem g_DeleteFunc_Lot_eq (l : List MLot) (a i : Int) (hl : l.length < 1000000000) : g_DeleteFunc_Lot l a i = some (own l a i) := by
  unfold g_DeleteFunc_Lot
  rw [g_IndexFunc_Lot_s1_eq l a i hl, Option.bind_some]
  have hown : own l a i = l.filter (fun x => !(fun y => !isOwn a i y) x) := by unfold own; congr 1; funext x; simp
  by_cases hy : fi (fun x => !isOwn a i x) l = -1
  · rw [if_pos hy, hown]
    congr 1; symm
    rw [List.filter_eq_self]
    intro x hx
    have := fi_neg hy x hx
    show (!(!isOwn a i x)) = true
    rw [this]; rfl
  · rw [if_neg hy]
    obtain ⟨j, hj, e, h1, h2⟩ := fi_pos hy
    rw [e]
    have e1 : w64 ((j : Int) + 1) = ((j + 1 : Nat) : Int) := by rw [w64_id] <;> omega
    rw [e1, g_DeleteFunc_Lot_L1_eq a i _ l.length hl (fun v p hv hp => ?_) FUEL l j (j + 1) rfl (by omega) hj (FUEL_gt (by omega)), hown]
    · have := take_filter (p := fun x => !isOwn a i x) hj h1 h2
      simp only [Bool.not_not] at this ⊢
      rw [this]
    · have h1 : (0 : Int) ≤ p := by omega
      have h2 : (p : Int) ≤ (v.length : Int) := by omega
      have h3 : Int.toNat (p : Int) = p := by omega
      have h4 : p + (v.length - p) ≤ v.length := by omega
      have h5 : (p : Int) ≤ ((List.take p v ++ List.replicate (v.length - p) (MLot.mk 0 0 0 0 0) ++ List.drop (p + (v.length - p)) v).length : Int) := by
        simp only [List.length_append, List.length_take, List.length_replicate, List.length_drop]; omega
      simp only [ln_map, List.length_map, h1, h2, h3, h4, h5, and_self, if_true]
      rw [del_tail v _ p (by omega)]

theorem i_lotsOf_eq (l : List MLot) (a i : Int) (hl : l.length < 1000000000) : i_lotsOf l a i = some (own l a i) := by
  unfold i_lotsOf g_Clone_Lot
  rw [if_pos (by simp; omega), Option.bind_some, g_DeleteFunc_Lot_eq l a i hl]; rfl

theorem sQ_cons (x : MLot) (l : List MLot) : sQ (x :: l) = x.Qty + sQ l := by simp [sQ]
theorem sC_cons (x : MLot) (l : List MLot) : sC (x :: l) = x.Cost + sC l := by simp [sC]
theorem sQ_bd : ∀ (l : List MLot), (∀ x ∈ l, lotForm x) → 0 ≤ sQ l ∧ sQ l ≤ l.length * 1000000000000000 ∧ 0 ≤ sC l ∧ sC l ≤ l.length * 1000000000000000
  | [], _ => by simp [sQ, sC]
  | x :: l, h => by
    have h1 := sQ_bd l fun y hy => h y (List.mem_cons_of_mem _ hy)
    have h2 := (h x (List.mem_cons_self ..)).2.2.2
    rw [sQ_cons, sC_cons, List.length_cons]
    omega

theorem i_sumLots_eq (l : List MLot) (h : ∀ x ∈ l, lotForm x) (hl : l.length ≤ 1000) : i_sumLots l = some (sQ l, sC l) := by
  unfold i_sumLots
  have := scan (l := l) (S := Int × Int) (fun n s i => i_sumLots_L1 l (fun (w12, w13) => some (w12, w13)) n (s.1, s.2, i)) (fun s x k => k (w64 (s.1 + x.Qty), w64 (s.2 + x.Cost))) (fun s => some s) (by omega)
    (fun n s j x hx hj => by
      simp only
      rw [i_sumLots_L1.eq_2]
      have e1 : w64 ((j : Int) + 1) = (j : Int) + 1 := by rw [w64_id] <;> omega
      have e2 : Int.toNat (j : Int) = j := by omega
      have h1 : (j : Int) < (l.length : Int) := by omega
      have h2 : (0 : Int) ≤ j := by omega
      simp only [ln_map, e1, e2, hx, Option.bind_some, h1, h2, if_true])
    (fun s x f g hfg => hfg _)
    (fun n s => by simp only; rw [i_sumLots_L1.eq_2]; simp [ln_map])
    (0, 0)
  simp only at this
  rw [this]
  have key : ∀ (m : List MLot) (s : Int × Int), (∀ x ∈ m, lotForm x) → 0 ≤ s.1 → 0 ≤ s.2 → s.1 + m.length * 1000000000000000 ≤ 2000000000000000000 → s.2 + m.length * 1000000000000000 ≤ 2000000000000000000 →
      goL (R := Int × Int) (fun s x k => k (w64 (s.1 + x.Qty), w64 (s.2 + x.Cost))) (fun s => some s) m s = some (s.1 + sQ m, s.2 + sC m) := by
    intro m
    induction m with
    | nil => intro s _ _ _ _ _; simp [goL, sQ, sC]
    | cons x m ih =>
      intro s hf h1 h2 h3 h4
      have hx := (hf x (List.mem_cons_self ..)).2.2.2
      rw [List.length_cons] at h3 h4
      simp only [goL]
      rw [w64_id (by omega) (by omega), w64_id (by omega) (by omega), ih _ (fun y hy => hf y (List.mem_cons_of_mem _ hy)) (by simp only; omega) (by simp only; omega) (by simp only; omega) (by simp only; omega), sQ_cons, sC_cons]
      simp only [Int.add_assoc]
  rw [key l (0, 0) h (Int.le_refl _) (Int.le_refl _) (by simp only; omega) (by simp only; omega)]
  simp

end Go.Proofs.YtbknlijpkabcnaaGreat.K
