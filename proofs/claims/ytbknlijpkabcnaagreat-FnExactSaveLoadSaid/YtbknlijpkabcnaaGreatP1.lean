/- The chart's checks, the balances', the lots' and the trades': both sides. No condition. -/
import Derived.Test.YtbknlijpkabcnaaGreatP0
import Derived.Test.YtbknlijpkabcnaaGreatA1F0
namespace Go.Proofs.YtbknlijpkabcnaaGreat.K
set_option linter.all false
open Go
open Classical

theorem i_in_eq (a b c : Int) : i_in a b c = some (decide (b ≤ a ∧ a ≤ c)) := by
  unfold i_in; by_cases h : b ≤ a <;> simp [h]
theorem s_l1In_eq (a b c : Int) : s_l1In a b c = some (decide (b ≤ a ∧ a ≤ c)) := by
  unfold s_l1In; by_cases h : b ≤ a <;> simp [h]
theorem i_isNo_eq (a : Int) : i_isNo a = some (decide (1 ≤ a ∧ a ≤ 1000)) := by simp [i_isNo, i_in_eq]
theorem s_l3No_eq (a : Int) : s_l3No a = some (decide (1 ≤ a ∧ a ≤ 1000)) := by simp [s_l3No, s_l1In_eq]
theorem i_AmountOk_eq (a : Int) : i_AmountOk a = some (decide (-1000000000000000 ≤ a ∧ a ≤ 1000000000000000)) := by simp [i_AmountOk, i_in_eq]
theorem s_AmountOk_eq (a : Int) : s_AmountOk a = some (decide (-1000000000000000 ≤ a ∧ a ≤ 1000000000000000)) := by simp [s_AmountOk, s_l1In_eq]
theorem s_l1Some_eq (a b : Int) : s_l1Some a b = some (decide (b ≤ a ∧ a ≤ 1000000000000000)) := by simp [s_l1Some, s_l1In_eq]
/-- Pairs in order. -/
def pLt (a b c d : Int) : Prop := a < c ∨ a = c ∧ b < d
theorem s_l4Before_eq (a b c d : Int) : s_l4Before a b c d = some (decide (pLt a b c d)) := by
  unfold s_l4Before pLt; grind
theorem i_byBoth_eq (a b c d : Int) : i_byBoth a b c d = some (if pLt a b c d then -1 else if a = c ∧ b = d then 0 else 1) := by
  unfold i_byBoth pLt; grind

def accForm (x : MAccount) : Prop := (1 ≤ x.No ∧ x.No ≤ 1000) ∧ (1 ≤ x.Kind ∧ x.Kind ≤ 4)
def accAdj (p x : MAccount) : Prop := p.No < x.No
def AccOk (l : List MAccount) : Prop := Chk accForm accAdj l ∧ l.length ≤ 20
def insForm (x : MInstr) : Prop := (1 ≤ x.No ∧ x.No ≤ 1000) ∧ (1 ≤ x.Kind ∧ x.Kind ≤ 2)
def insAdj (p x : MInstr) : Prop := p.No < x.No
def InsOk (l : List MInstr) : Prop := Chk insForm insAdj l ∧ l.length ≤ 8
def amt (x : Int) : Prop := -1000000000000000 ≤ x ∧ x ≤ 1000000000000000
def balForm (x : MBal) : Prop := (1 ≤ x.Account ∧ x.Account ≤ 1000) ∧ (1 ≤ x.Instr ∧ x.Instr ≤ 1000) ∧ amt x.Amount ∧ x.Amount ≠ 0
def balAdj (p x : MBal) : Prop := pLt p.Account p.Instr x.Account x.Instr
def BalOk (l : List MBal) : Prop := Chk balForm balAdj l ∧ l.length ≤ 160
def traForm (x : MTrade) : Prop := (1 ≤ x.No ∧ x.No ≤ 1000) ∧ (1 ≤ x.Buyer ∧ x.Buyer ≤ 1000) ∧ (1 ≤ x.Seller ∧ x.Seller ≤ 1000) ∧ (1 ≤ x.Paper ∧ x.Paper ≤ 1000) ∧ (1 ≤ x.Cash ∧ x.Cash ≤ 1000) ∧ x.Buyer ≠ x.Seller ∧
  (1 ≤ x.Qty ∧ x.Qty ≤ 1000000000000000) ∧ (0 ≤ x.Price ∧ x.Price ≤ 1000000000000000) ∧ (1 ≤ x.State ∧ x.State ≤ 3)
def traAdj (p x : MTrade) : Prop := p.No < x.No
def TraOk (l : List MTrade) : Prop := Chk traForm traAdj l ∧ l.length ≤ 30

theorem i_AccountsOk_eq (l : List MAccount) (hl : l.length < 1000000000) : i_AccountsOk l = some (decide (AccOk l)) := by
  unfold i_AccountsOk
  rw [chk_loop (l := l) (i_AccountsOk_L1 l _) accForm accAdj (some (decide ((ln (List.map MAccount.av l)) ≤ (20 : Int)))) (some false) hl]
  · by_cases h : Chk accForm accAdj l <;> simp [h, AccOk, ln_map] <;> omega
  · intro n x hx
    have h0 : 0 < l.length := (List.getElem?_eq_some_iff.1 hx).1
    have e5 : w64 ((0 : Int) + 1) = 1 := by rw [w64_id] <;> omega
    rw [i_AccountsOk_L1.eq_2]
    simp only [ln_map, i_isNo_eq, i_in_eq, i_AmountOk_eq, amt, i_byBoth_eq, accForm, Option.bind_some, Int.toNat_zero, hx, e5]
    grind (splits := 60)
  · intro n j p x hp hx hj
    have e1 : w64 ((j : Int) + 1 - 1) = j := by rw [w64_id] <;> omega
    have e2 : w64 ((j : Int) + 1 + 1) = (j : Int) + 2 := by rw [w64_id] <;> omega
    have e3 : Int.toNat ((j : Int) + 1) = j + 1 := by omega
    have e4 : Int.toNat (j : Int) = j := by omega
    rw [i_AccountsOk_L1.eq_2]
    simp only [ln_map, i_isNo_eq, i_in_eq, i_AmountOk_eq, amt, i_byBoth_eq, accForm, accAdj, Option.bind_some, e1, e2, e3, e4, hx, hp]
    grind (splits := 60)
  · intro n
    rw [i_AccountsOk_L1.eq_2]
    simp [ln_map]

theorem s_AccountsOk_eq (l : List MAccount) (hl : l.length < 1000000000) : s_AccountsOk l = some (decide (AccOk l)) := by
  unfold s_AccountsOk
  by_cases hm : (20 : Int) < (ln (List.map MAccount.av l))
  · rw [if_pos hm]; rw [ln_map] at hm; have : ¬ AccOk l := fun h => by have := h.2; omega
    simp [this]
  rw [if_neg hm]; rw [ln_map] at hm
  rw [chk_loop (l := l) (s_AccountsOk_L1 l _) accForm accAdj (some true) (some false) hl]
  · by_cases h : Chk accForm accAdj l <;> simp [h, AccOk, ln_map] <;> omega
  · intro n x hx
    have h0 : 0 < l.length := (List.getElem?_eq_some_iff.1 hx).1
    have e5 : w64 ((0 : Int) + 1) = 1 := by rw [w64_id] <;> omega
    rw [s_AccountsOk_L1.eq_2]
    simp only [ln_map, s_l3No_eq, s_l1In_eq, s_AmountOk_eq, amt, s_l1Some_eq, s_l4Before_eq, accForm, Option.bind_some, Int.toNat_zero, hx, e5]
    grind (splits := 60)
  · intro n j p x hp hx hj
    have e1 : w64 ((j : Int) + 1 - 1) = j := by rw [w64_id] <;> omega
    have e2 : w64 ((j : Int) + 1 + 1) = (j : Int) + 2 := by rw [w64_id] <;> omega
    have e3 : Int.toNat ((j : Int) + 1) = j + 1 := by omega
    have e4 : Int.toNat (j : Int) = j := by omega
    rw [s_AccountsOk_L1.eq_2]
    simp only [ln_map, s_l3No_eq, s_l1In_eq, s_AmountOk_eq, amt, s_l1Some_eq, s_l4Before_eq, accForm, accAdj, Option.bind_some, e1, e2, e3, e4, hx, hp]
    grind (splits := 60)
  · intro n
    rw [s_AccountsOk_L1.eq_2]
    simp [ln_map]

theorem i_InstrsOk_eq (l : List MInstr) (hl : l.length < 1000000000) : i_InstrsOk l = some (decide (InsOk l)) := by
  unfold i_InstrsOk
  rw [chk_loop (l := l) (i_InstrsOk_L1 l _) insForm insAdj (some (decide ((ln (List.map MInstr.av l)) ≤ (8 : Int)))) (some false) hl]
  · by_cases h : Chk insForm insAdj l <;> simp [h, InsOk, ln_map] <;> omega
  · intro n x hx
    have h0 : 0 < l.length := (List.getElem?_eq_some_iff.1 hx).1
    have e5 : w64 ((0 : Int) + 1) = 1 := by rw [w64_id] <;> omega
    rw [i_InstrsOk_L1.eq_2]
    simp only [ln_map, i_isNo_eq, i_in_eq, i_AmountOk_eq, amt, i_byBoth_eq, insForm, Option.bind_some, Int.toNat_zero, hx, e5]
    grind (splits := 60)
  · intro n j p x hp hx hj
    have e1 : w64 ((j : Int) + 1 - 1) = j := by rw [w64_id] <;> omega
    have e2 : w64 ((j : Int) + 1 + 1) = (j : Int) + 2 := by rw [w64_id] <;> omega
    have e3 : Int.toNat ((j : Int) + 1) = j + 1 := by omega
    have e4 : Int.toNat (j : Int) = j := by omega
    rw [i_InstrsOk_L1.eq_2]
    simp only [ln_map, i_isNo_eq, i_in_eq, i_AmountOk_eq, amt, i_byBoth_eq, insForm, insAdj, Option.bind_some, e1, e2, e3, e4, hx, hp]
    grind (splits := 60)
  · intro n
    rw [i_InstrsOk_L1.eq_2]
    simp [ln_map]

theorem s_InstrsOk_eq (l : List MInstr) (hl : l.length < 1000000000) : s_InstrsOk l = some (decide (InsOk l)) := by
  unfold s_InstrsOk
  by_cases hm : (8 : Int) < (ln (List.map MInstr.av l))
  · rw [if_pos hm]; rw [ln_map] at hm; have : ¬ InsOk l := fun h => by have := h.2; omega
    simp [this]
  rw [if_neg hm]; rw [ln_map] at hm
  rw [chk_loop (l := l) (s_InstrsOk_L1 l _) insForm insAdj (some true) (some false) hl]
  · by_cases h : Chk insForm insAdj l <;> simp [h, InsOk, ln_map] <;> omega
  · intro n x hx
    have h0 : 0 < l.length := (List.getElem?_eq_some_iff.1 hx).1
    have e5 : w64 ((0 : Int) + 1) = 1 := by rw [w64_id] <;> omega
    rw [s_InstrsOk_L1.eq_2]
    simp only [ln_map, s_l3No_eq, s_l1In_eq, s_AmountOk_eq, amt, s_l1Some_eq, s_l4Before_eq, insForm, Option.bind_some, Int.toNat_zero, hx, e5]
    grind (splits := 60)
  · intro n j p x hp hx hj
    have e1 : w64 ((j : Int) + 1 - 1) = j := by rw [w64_id] <;> omega
    have e2 : w64 ((j : Int) + 1 + 1) = (j : Int) + 2 := by rw [w64_id] <;> omega
    have e3 : Int.toNat ((j : Int) + 1) = j + 1 := by omega
    have e4 : Int.toNat (j : Int) = j := by omega
    rw [s_InstrsOk_L1.eq_2]
    simp only [ln_map, s_l3No_eq, s_l1In_eq, s_AmountOk_eq, amt, s_l1Some_eq, s_l4Before_eq, insForm, insAdj, Option.bind_some, e1, e2, e3, e4, hx, hp]
    grind (splits := 60)
  · intro n
    rw [s_InstrsOk_L1.eq_2]
    simp [ln_map]

theorem i_BalsOk_eq (l : List MBal) (hl : l.length < 1000000000) : i_BalsOk l = some (decide (BalOk l)) := by
  unfold i_BalsOk
  rw [chk_loop (l := l) (i_BalsOk_L1 l _) balForm balAdj (some (decide ((ln (List.map MBal.av l)) ≤ (160 : Int)))) (some false) hl]
  · by_cases h : Chk balForm balAdj l <;> simp [h, BalOk, ln_map] <;> omega
  · intro n x hx
    have h0 : 0 < l.length := (List.getElem?_eq_some_iff.1 hx).1
    have e5 : w64 ((0 : Int) + 1) = 1 := by rw [w64_id] <;> omega
    rw [i_BalsOk_L1.eq_2]
    simp only [ln_map, i_isNo_eq, i_in_eq, i_AmountOk_eq, amt, i_byBoth_eq, balForm, Option.bind_some, Int.toNat_zero, hx, e5]
    grind (splits := 60)
  · intro n j p x hp hx hj
    have e1 : w64 ((j : Int) + 1 - 1) = j := by rw [w64_id] <;> omega
    have e2 : w64 ((j : Int) + 1 + 1) = (j : Int) + 2 := by rw [w64_id] <;> omega
    have e3 : Int.toNat ((j : Int) + 1) = j + 1 := by omega
    have e4 : Int.toNat (j : Int) = j := by omega
    rw [i_BalsOk_L1.eq_2]
    simp only [ln_map, i_isNo_eq, i_in_eq, i_AmountOk_eq, amt, i_byBoth_eq, balForm, balAdj, Option.bind_some, e1, e2, e3, e4, hx, hp]
    grind (splits := 60)
  · intro n
    rw [i_BalsOk_L1.eq_2]
    simp [ln_map]

theorem s_BalsOk_eq (l : List MBal) (hl : l.length < 1000000000) : s_BalsOk l = some (decide (BalOk l)) := by
  unfold s_BalsOk
  by_cases hm : (160 : Int) < (ln (List.map MBal.av l))
  · rw [if_pos hm]; rw [ln_map] at hm; have : ¬ BalOk l := fun h => by have := h.2; omega
    simp [this]
  rw [if_neg hm]; rw [ln_map] at hm
  rw [chk_loop (l := l) (s_BalsOk_L1 l _) balForm balAdj (some true) (some false) hl]
  · by_cases h : Chk balForm balAdj l <;> simp [h, BalOk, ln_map] <;> omega
  · intro n x hx
    have h0 : 0 < l.length := (List.getElem?_eq_some_iff.1 hx).1
    have e5 : w64 ((0 : Int) + 1) = 1 := by rw [w64_id] <;> omega
    rw [s_BalsOk_L1.eq_2]
    simp only [ln_map, s_l3No_eq, s_l1In_eq, s_AmountOk_eq, amt, s_l1Some_eq, s_l4Before_eq, balForm, Option.bind_some, Int.toNat_zero, hx, e5]
    grind (splits := 60)
  · intro n j p x hp hx hj
    have e1 : w64 ((j : Int) + 1 - 1) = j := by rw [w64_id] <;> omega
    have e2 : w64 ((j : Int) + 1 + 1) = (j : Int) + 2 := by rw [w64_id] <;> omega
    have e3 : Int.toNat ((j : Int) + 1) = j + 1 := by omega
    have e4 : Int.toNat (j : Int) = j := by omega
    rw [s_BalsOk_L1.eq_2]
    simp only [ln_map, s_l3No_eq, s_l1In_eq, s_AmountOk_eq, amt, s_l1Some_eq, s_l4Before_eq, balForm, balAdj, Option.bind_some, e1, e2, e3, e4, hx, hp]
    grind (splits := 60)
  · intro n
    rw [s_BalsOk_L1.eq_2]
    simp [ln_map]

theorem i_TradesOk_eq (l : List MTrade) (hl : l.length < 1000000000) : i_TradesOk l = some (decide (TraOk l)) := by
  unfold i_TradesOk
  rw [chk_loop (l := l) (i_TradesOk_L1 l _) traForm traAdj (some (decide ((ln (List.map MTrade.av l)) ≤ (30 : Int)))) (some false) hl]
  · by_cases h : Chk traForm traAdj l <;> simp [h, TraOk, ln_map] <;> omega
  · intro n x hx
    have h0 : 0 < l.length := (List.getElem?_eq_some_iff.1 hx).1
    have e5 : w64 ((0 : Int) + 1) = 1 := by rw [w64_id] <;> omega
    rw [i_TradesOk_L1.eq_2]
    simp only [ln_map, i_isNo_eq, i_in_eq, i_AmountOk_eq, amt, i_byBoth_eq, traForm, Option.bind_some, Int.toNat_zero, hx, e5]
    grind (splits := 60)
  · intro n j p x hp hx hj
    have e1 : w64 ((j : Int) + 1 - 1) = j := by rw [w64_id] <;> omega
    have e2 : w64 ((j : Int) + 1 + 1) = (j : Int) + 2 := by rw [w64_id] <;> omega
    have e3 : Int.toNat ((j : Int) + 1) = j + 1 := by omega
    have e4 : Int.toNat (j : Int) = j := by omega
    rw [i_TradesOk_L1.eq_2]
    simp only [ln_map, i_isNo_eq, i_in_eq, i_AmountOk_eq, amt, i_byBoth_eq, traForm, traAdj, Option.bind_some, e1, e2, e3, e4, hx, hp]
    grind (splits := 60)
  · intro n
    rw [i_TradesOk_L1.eq_2]
    simp [ln_map]

theorem s_TradesOk_eq (l : List MTrade) (hl : l.length < 1000000000) : s_TradesOk l = some (decide (TraOk l)) := by
  unfold s_TradesOk
  by_cases hm : (30 : Int) < (ln (List.map MTrade.av l))
  · rw [if_pos hm]; rw [ln_map] at hm; have : ¬ TraOk l := fun h => by have := h.2; omega
    simp [this]
  rw [if_neg hm]; rw [ln_map] at hm
  rw [chk_loop (l := l) (s_TradesOk_L1 l _) traForm traAdj (some true) (some false) hl]
  · by_cases h : Chk traForm traAdj l <;> simp [h, TraOk, ln_map] <;> omega
  · intro n x hx
    have h0 : 0 < l.length := (List.getElem?_eq_some_iff.1 hx).1
    have e5 : w64 ((0 : Int) + 1) = 1 := by rw [w64_id] <;> omega
    rw [s_TradesOk_L1.eq_2]
    simp only [ln_map, s_l3No_eq, s_l1In_eq, s_AmountOk_eq, amt, s_l1Some_eq, s_l4Before_eq, traForm, Option.bind_some, Int.toNat_zero, hx, e5]
    grind (splits := 60)
  · intro n j p x hp hx hj
    have e1 : w64 ((j : Int) + 1 - 1) = j := by rw [w64_id] <;> omega
    have e2 : w64 ((j : Int) + 1 + 1) = (j : Int) + 2 := by rw [w64_id] <;> omega
    have e3 : Int.toNat ((j : Int) + 1) = j + 1 := by omega
    have e4 : Int.toNat (j : Int) = j := by omega
    rw [s_TradesOk_L1.eq_2]
    simp only [ln_map, s_l3No_eq, s_l1In_eq, s_AmountOk_eq, amt, s_l1Some_eq, s_l4Before_eq, traForm, traAdj, Option.bind_some, e1, e2, e3, e4, hx, hp]
    grind (splits := 60)
  · intro n
    rw [s_TradesOk_L1.eq_2]
    simp [ln_map]

end Go.Proofs.YtbknlijpkabcnaaGreat.K
