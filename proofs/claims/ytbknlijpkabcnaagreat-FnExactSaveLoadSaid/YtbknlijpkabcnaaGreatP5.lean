/- Books that are right: both sides. No condition. -/
import Derived.Test.YtbknlijpkabcnaaGreatP4
namespace Go.Proofs.YtbknlijpkabcnaaGreat.K
set_option linter.all false
open Go
open Classical

def balR (b : MBooks) (x : MBal) : Prop := kA b.Accounts x.Account ≠ 0 ∧ kI b.Instrs x.Instr ≠ 0 ∧ ¬ (kA b.Accounts x.Account = 1 ∧ x.Amount < 0) ∧ sB b.Bals x.Instr = 0
def lotR (b : MBooks) (x : MLot) : Prop := kA b.Accounts x.Account = 1 ∧ kI b.Instrs x.Instr = 2 ∧ x.No ≤ b.Lot
def pairR (b : MBooks) (a : MAccount) (x : MInstr) : Prop := a.Kind = 1 → x.Kind = 2 → sQ (own b.Lots a.No x.No) = oB b.Bals a.No x.No
def traR (b : MBooks) (t : MTrade) : Prop := kA b.Accounts t.Buyer = 1 ∧ kA b.Accounts t.Seller = 1 ∧ kI b.Instrs t.Paper = 2 ∧ kI b.Instrs t.Cash = 1
def BkOk (b : MBooks) : Prop := AccOk b.Accounts ∧ InsOk b.Instrs ∧ BalOk b.Bals ∧ LotOk b.Lots ∧ TraOk b.Trades ∧ (0 ≤ b.Lot ∧ b.Lot ≤ 1000000000) ∧
  (∀ x ∈ b.Bals, balR b x) ∧ ((∀ x ∈ b.Lots, lotR b x) ∧ ∀ a ∈ b.Accounts, ∀ x ∈ b.Instrs, pairR b a x) ∧ ∀ t ∈ b.Trades, traR b t
/-- Lists that are not too long. -/
def SMB (b : MBooks) : Prop := b.Accounts.length < 1000000000 ∧ b.Instrs.length < 1000000000 ∧ b.Bals.length < 1000000000 ∧ b.Lots.length < 1000000000 ∧ b.Trades.length < 1000000000

theorem ite_dec (P : Prop) {i j : Decidable P} : (@ite _ P i (some true) (some false)) = some (@decide P j) := by
  by_cases h : P
  · rw [if_pos h, @decide_eq_true _ j h]
  · rw [if_neg h, @decide_eq_false _ j h]
theorem ite_same {α : Type} {P : Prop} {i j : Decidable P} {a b : α} : @ite _ P i a b = @ite _ P j a b := by
  by_cases h : P
  · rw [if_pos h, if_pos h]
  · rw [if_neg h, if_neg h]

section
variable {b : MBooks} (hs : SMB b)
include hs

theorem i_balsRight_eq (hb : BalOk b.Bals) : i_balsRight b = some (decide (∀ x ∈ b.Bals, balR b x)) := by
  unfold i_balsRight
  rw [all_el (l := b.Bals) (i_balsRight_L1 b _) (balR b) (some true) (some false) hs.2.2.1 (fun n i x hx hi => ?_) (fun n => ?_)]
  · exact ite_dec _
  · obtain ⟨e1, e2, h1, h2⟩ := ixf hi hs.2.2.1
    rw [i_balsRight_L1.eq_2]
    simp only [ln_map, e1, e2, hx, Option.bind_some, h1, h2, if_true, i_accountKind_eq _ _ hs.1, i_instrKind_eq _ _ hs.2.1, i_balsSum_eq _ _ hb, balR]
    grind
  · rw [i_balsRight_L1.eq_2]; simp [ln_map]

theorem s_l6Bals_eq (ha : AccOk b.Accounts) (hi : InsOk b.Instrs) (hb : BalOk b.Bals) : s_l6Bals b = some (decide (∀ x ∈ b.Bals, balR b x)) := by
  unfold s_l6Bals
  rw [all_el (l := b.Bals) (s_l6Bals_L1 b _) (balR b) (some true) (some false) hs.2.2.1 (fun n i x hx hi' => ?_) (fun n => ?_)]
  · exact ite_dec _
  · obtain ⟨e1, e2, h1, h2⟩ := ixf hi' hs.2.2.1
    rw [s_l6Bals_L1.eq_2]
    simp only [ln_map, e1, e2, hx, Option.bind_some, h1, h2, if_true, s_AccountKind_eq _ _ hs.1 ha, s_InstrKind_eq _ _ hs.2.1 hi, s_BalsSum_eq _ _ hb, balR]
    by_cases h : amt (sB b.Bals x.Instr)
    · rw [if_pos h]
      simp only
      grind
    · rw [if_neg h]
      have : ¬ (sB b.Bals x.Instr = 0) := fun e => h (by rw [e]; unfold amt; omega)
      simp only [this, and_false, if_false]
      grind
  · rw [s_l6Bals_L1.eq_2]; simp [ln_map]

theorem s_l5Split_eq (l : List MLot) (a i : Int) (hl : l.length < 1000000000) : s_l5Split l a i = some (own l a i, l.filter fun x => !isOwn a i x) := by
  unfold s_l5Split
  have h := scan (l := l) (S := List MLot × List MLot) (R := List MLot × List MLot) (fun n s j => s_l5Split_L1 l a i (fun (w22, w23) => some (w22, w23)) n (s.1, s.2, j))
    (fun s x k => if isOwn a i x = true then (if (s.1.length + 1) * 40 ≤ 140737488355328 then k (s.1 ++ [x], s.2) else none) else (if (s.2.length + 1) * 40 ≤ 140737488355328 then k (s.1, s.2 ++ [x]) else none)) (fun s => some s) hl
    (fun n s j x hx hj => by
      obtain ⟨e1, e2, h1, h2⟩ := ixf hj hl
      rw [s_l5Split_L1.eq_2]
      simp only [ln_map, e1, e2, hx, Option.bind_some, h1, h2, if_true, List.length_map, List.length_cons, List.length_nil, isOwn, Nat.zero_add]
      by_cases k1 : x.Account = a <;> by_cases k2 : x.Instr = i <;> simp [k1, k2])
    (fun s x f g hfg => by simp only [hfg])
    (fun n s => by rw [s_l5Split_L1.eq_2]; simp [ln_map]) ([], [])
  rw [h]
  clear h
  have key : ∀ (m : List MLot) (s : List MLot × List MLot), s.1.length + m.length < 1000000000 → s.2.length + m.length < 1000000000 →
      goL (R := List MLot × List MLot) (fun s x k => if isOwn a i x = true then (if (s.1.length + 1) * 40 ≤ 140737488355328 then k (s.1 ++ [x], s.2) else none) else (if (s.2.length + 1) * 40 ≤ 140737488355328 then k (s.1, s.2 ++ [x]) else none)) (fun s => some s) m s =
        some (s.1 ++ own m a i, s.2 ++ m.filter fun x => !isOwn a i x) := by
    intro m
    induction m with
    | nil => intro s _ _; simp [goL, own]
    | cons x m ih =>
      intro s h1 h2
      rw [List.length_cons] at h1 h2
      simp only [goL]
      by_cases hx : isOwn a i x = true
      · rw [if_pos hx, if_pos (by omega), ih _ (by simp; omega) (by simp; omega)]
        simp [own, hx]
      · rw [if_neg hx, if_pos (by omega), ih _ (by simp; omega) (by simp; omega)]
        simp [own, hx]
  rw [key l ([], []) (by simpa using hl) (by simpa using hl)]
  simp

theorem s_l5Qty_eq (l : List MLot) (h : ∀ x ∈ l, lotForm x) (hl : l.length ≤ 1000) : s_l5Qty l = some (sQ l) := by
  unfold s_l5Qty
  have hh := scan (l := l) (S := Int) (R := Int) (fun n s i => s_l5Qty_L1 l (fun w => some w) n (s, i)) (fun s x k => k (w64 (s + x.Qty))) (fun s => some s) (by omega)
    (fun n s j x hx hj => by
      obtain ⟨e1, e2, h1, h2⟩ := ixf hj (by omega)
      rw [s_l5Qty_L1.eq_2]
      simp only [ln_map, e1, e2, hx, Option.bind_some, h1, h2, if_true])
    (fun s x f g hfg => hfg _)
    (fun n s => by rw [s_l5Qty_L1.eq_2]; simp [ln_map]) 0
  rw [hh]
  have key : ∀ (m : List MLot) (s : Int), (∀ x ∈ m, lotForm x) → 0 ≤ s → s + m.length * 1000000000000000 ≤ 2000000000000000000 →
      goL (R := Int) (fun s (x : MLot) k => k (w64 (s + x.Qty))) (fun s => some s) m s = some (s + sQ m) := by
    intro m
    induction m with
    | nil => intro s _ _ _; simp [goL, sQ]
    | cons x m ih =>
      intro s hf h1 h3
      have hx := (hf x (List.mem_cons_self ..)).2.2.2
      rw [List.length_cons] at h3
      simp only [goL]
      rw [w64_id (by omega) (by omega), ih _ (fun y hy => hf y (List.mem_cons_of_mem _ hy)) (by omega) (by omega), sQ_cons]
      simp only [Int.add_assoc]
  rw [key l 0 h (Int.le_refl _) (by omega)]
  simp

theorem i_lotsRight_L3_eq (x : MAccount) (k : Unit → Option Bool) (hb : BalOk b.Bals) (hlo : LotOk b.Lots) :
    i_lotsRight_L3 b x k FUEL 0 = if ∀ y ∈ b.Instrs, pairR b x y then k () else some false := by
  refine all_el (l := b.Instrs) (i_lotsRight_L3 b x k) (pairR b x) (k ()) (some false) hs.2.1 (fun n i y hy hi => ?_) (fun n => ?_)
  · obtain ⟨e1, e2, h1, h2⟩ := ixf hi hs.2.1
    rw [i_lotsRight_L3.eq_2]
    simp only [ln_map, e1, e2, hy, Option.bind_some, h1, h2, if_true, i_lotsOf_eq _ _ _ hs.2.2.2.1, i_sumLots_eq (own b.Lots x.No y.No) (fun z hz => Chk_mem hlo.1 z (own_mem.1 hz).1) (by have := own_length b.Lots x.No y.No; have := hlo.2.1; omega), i_balOf_eq _ _ _ hb, pairR]
    grind
  · rw [i_lotsRight_L3.eq_2]; simp [ln_map]
theorem i_lotsRight_eq (hb : BalOk b.Bals) (hlo : LotOk b.Lots) : i_lotsRight b = some (decide ((∀ x ∈ b.Lots, lotR b x) ∧ ∀ a ∈ b.Accounts, ∀ x ∈ b.Instrs, pairR b a x)) := by
  unfold i_lotsRight
  rw [all_el (l := b.Lots) (i_lotsRight_L1 b _) (lotR b) (i_lotsRight_L2 b (fun _ => some true) FUEL 0) (some false) hs.2.2.2.1 (fun n i x hx hi => ?_) (fun n => ?_)]
  · rw [all_el (l := b.Accounts) (i_lotsRight_L2 b _) (fun a => ∀ x ∈ b.Instrs, pairR b a x) (some true) (some false) hs.1 (fun n i x hx hi => ?_) (fun n => ?_)]
    · by_cases h1 : ∀ x ∈ b.Lots, lotR b x
      · by_cases h2 : ∀ a ∈ b.Accounts, ∀ x ∈ b.Instrs, pairR b a x
        · rw [if_pos h1, if_pos h2, decide_eq_true ⟨h1, h2⟩]
        · rw [if_pos h1, if_neg h2, decide_eq_false (fun h => h2 h.2)]
      · rw [if_neg h1, decide_eq_false (fun h => h1 h.1)]
    · obtain ⟨e1, e2, h1, h2⟩ := ixf hi hs.1
      rw [i_lotsRight_L2.eq_2]
      simp only [ln_map, e1, e2, hx, Option.bind_some, h1, h2, if_true, i_lotsRight_L3_eq hs x _ hb hlo]
      exact ite_same
    · rw [i_lotsRight_L2.eq_2]; simp [ln_map]
  · obtain ⟨e1, e2, h1, h2⟩ := ixf hi hs.2.2.2.1
    rw [i_lotsRight_L1.eq_2]
    simp only [ln_map, e1, e2, hx, Option.bind_some, h1, h2, if_true, i_accountKind_eq _ _ hs.1, i_instrKind_eq _ _ hs.2.1, lotR]
    grind
  · rw [i_lotsRight_L1.eq_2]; simp [ln_map]

theorem s_l6Lots_L3_eq (i : Nat) (x : MAccount) (hx : b.Accounts[i]? = some x) (k : Unit → Option Bool) (hb : BalOk b.Bals) (hlo : LotOk b.Lots) :
    s_l6Lots_L3 b (i : Int) k FUEL 0 = if ∀ y ∈ b.Instrs, pairR b x y then k () else some false := by
  have hi := (List.getElem?_eq_some_iff.1 hx).1
  refine all_el (l := b.Instrs) (s_l6Lots_L3 b (i : Int) k) (pairR b x) (k ()) (some false) hs.2.1 (fun n j y hy hj => ?_) (fun n => ?_)
  · obtain ⟨e1, e2, h1, h2⟩ := ixf hj hs.2.1
    obtain ⟨_, e4, _, h4⟩ := ixf hi hs.1
    rw [s_l6Lots_L3.eq_2]
    simp only [ln_map, e1, e2, e4, hy, hx, Option.bind_some, h1, h2, h4, if_true, s_l5Split_eq hs _ _ _ hs.2.2.2.1, s_l5Qty_eq hs (own b.Lots x.No y.No) (fun z hz => Chk_mem hlo.1 z (own_mem.1 hz).1) (by have := own_length b.Lots x.No y.No; have := hlo.2.1; omega), s_l4Of_eq _ _ _ hs.2.2.1, pairR]
    grind
  · rw [s_l6Lots_L3.eq_2]; simp [ln_map]
theorem s_l6Lots_eq (ha : AccOk b.Accounts) (hin : InsOk b.Instrs) (hb : BalOk b.Bals) (hlo : LotOk b.Lots) : s_l6Lots b = some (decide ((∀ x ∈ b.Lots, lotR b x) ∧ ∀ a ∈ b.Accounts, ∀ x ∈ b.Instrs, pairR b a x)) := by
  unfold s_l6Lots
  rw [all_el (l := b.Lots) (s_l6Lots_L1 b _) (lotR b) (s_l6Lots_L2 b (fun _ => some true) FUEL 0) (some false) hs.2.2.2.1 (fun n i x hx hi => ?_) (fun n => ?_)]
  · rw [all_el (l := b.Accounts) (s_l6Lots_L2 b _) (fun a => ∀ x ∈ b.Instrs, pairR b a x) (some true) (some false) hs.1 (fun n i x hx hi => ?_) (fun n => ?_)]
    · by_cases h1 : ∀ x ∈ b.Lots, lotR b x
      · by_cases h2 : ∀ a ∈ b.Accounts, ∀ x ∈ b.Instrs, pairR b a x
        · rw [if_pos h1, if_pos h2, decide_eq_true ⟨h1, h2⟩]
        · rw [if_pos h1, if_neg h2, decide_eq_false (fun h => h2 h.2)]
      · rw [if_neg h1, decide_eq_false (fun h => h1 h.1)]
    · obtain ⟨e1, e2, h1, h2⟩ := ixf hi hs.1
      rw [s_l6Lots_L2.eq_2]
      simp only [ln_map, e1, h1, if_true, s_l6Lots_L3_eq hs i x hx _ hb hlo]
      exact ite_same
    · rw [s_l6Lots_L2.eq_2]; simp [ln_map]
  · obtain ⟨e1, e2, h1, h2⟩ := ixf hi hs.2.2.2.1
    rw [s_l6Lots_L1.eq_2]
    simp only [ln_map, e1, e2, hx, Option.bind_some, h1, h2, if_true, s_AccountKind_eq _ _ hs.1 ha, s_InstrKind_eq _ _ hs.2.1 hin, lotR]
    grind
  · rw [s_l6Lots_L1.eq_2]; simp [ln_map]

theorem i_tradesRight_eq : i_tradesRight b = some (decide (∀ t ∈ b.Trades, traR b t)) := by
  unfold i_tradesRight g_ContainsFunc_Trade g_IndexFunc_Trade
  rw [idx_loop (l := b.Trades) (g_IndexFunc_Trade_L1 b.Trades b.Accounts b.Instrs b.Bals b.Lots b.Trades b.Lot _) (fun t => !decide (traR b t)) hs.2.2.2.2 (fun n j x hx hj => ?_) (fun n => ?_), Option.bind_some, Option.bind_some]
  · congr 1
    have := fi_any (fun t => !decide (traR b t)) b.Trades
    by_cases h : ∀ t ∈ b.Trades, traR b t
    · rw [decide_eq_true h]
      have hn : ¬ (0 ≤ fi (fun t => !decide (traR b t)) b.Trades) := fun hc => by
        obtain ⟨t, ht, hp⟩ := this.1 hc
        simp [h t ht] at hp
      simp [hn]
    · rw [decide_eq_false h]
      have hn : 0 ≤ fi (fun t => !decide (traR b t)) b.Trades := by
        rw [this]
        refine Classical.byContradiction fun hc => h fun t ht => Classical.byContradiction fun hh => hc ⟨t, ht, by simp [hh]⟩
      simp [hn]
  · obtain ⟨e1, e2, h1, h2⟩ := ixf hj hs.2.2.2.2
    rw [g_IndexFunc_Trade_L1.eq_2]
    simp only [ln_map, e1, e2, hx, Option.bind_some, h1, h2, if_true, i_tradesRight_c1, i_accountKind_eq _ _ hs.1, i_instrKind_eq _ _ hs.2.1, traR]
    by_cases k1 : kA b.Accounts x.Buyer = 1 <;> by_cases k2 : kA b.Accounts x.Seller = 1 <;> by_cases k3 : kI b.Instrs x.Paper = 2 <;> by_cases k4 : kI b.Instrs x.Cash = 1 <;> simp [k1, k2, k3, k4]
  · rw [g_IndexFunc_Trade_L1.eq_2]; simp [ln_map]

theorem i_BooksOk_eq : i_BooksOk b = some (decide (BkOk b)) := by
  simp only [i_BooksOk, i_AccountsOk_eq _ hs.1, i_InstrsOk_eq _ hs.2.1, i_BalsOk_eq _ hs.2.2.1, i_LotsOk_eq _ hs.2.2.2.1, i_TradesOk_eq _ hs.2.2.2.2, i_in_eq, Option.bind_some, i_tradesRight_eq hs, BkOk, decide_eq_true_eq]
  by_cases h1 : AccOk b.Accounts
  · by_cases h2 : InsOk b.Instrs
    · by_cases h3 : BalOk b.Bals
      · by_cases h4 : LotOk b.Lots
        · rw [i_balsRight_eq hs h3, i_lotsRight_eq hs h3 h4]
          simp only [Option.bind_some, decide_eq_true_eq]
          grind
        · simp [h1, h2, h3, h4]
      · simp [h1, h2, h3]
    · simp [h1, h2]
  · simp [h1]

theorem s_BooksOk_L1_eq (ha : AccOk b.Accounts) (hin : InsOk b.Instrs) : s_BooksOk_L1 b (fun _ => some true) FUEL 0 = if ∀ t ∈ b.Trades, traR b t then some true else some false := by
  refine all_el (l := b.Trades) (s_BooksOk_L1 b _) (traR b) (some true) (some false) hs.2.2.2.2 (fun n i x hx hi => ?_) (fun n => ?_)
  · obtain ⟨e1, e2, h1, h2⟩ := ixf hi hs.2.2.2.2
    rw [s_BooksOk_L1.eq_2]
    simp only [ln_map, e1, e2, hx, Option.bind_some, h1, h2, if_true, s_AccountKind_eq _ _ hs.1 ha, s_InstrKind_eq _ _ hs.2.1 hin, traR]
    grind
  · rw [s_BooksOk_L1.eq_2]; simp [ln_map]

theorem s_BooksOk_eq : s_BooksOk b = some (decide (BkOk b)) := by
  simp only [s_BooksOk, s_AccountsOk_eq _ hs.1, s_InstrsOk_eq _ hs.2.1, s_BalsOk_eq _ hs.2.2.1, s_LotsOk_eq _ hs.2.2.2.1, s_TradesOk_eq _ hs.2.2.2.2, s_l1In_eq, Option.bind_some, BkOk, decide_eq_true_eq]
  by_cases h1 : AccOk b.Accounts
  · by_cases h2 : InsOk b.Instrs
    · by_cases h3 : BalOk b.Bals
      · by_cases h4 : LotOk b.Lots
        · rw [s_l6Bals_eq hs h1 h2 h3, s_l6Lots_eq hs h1 h2 h3 h4, s_BooksOk_L1_eq hs h1 h2]
          simp only [Option.bind_some, decide_eq_true_eq]
          grind
        · simp [h1, h2, h3, h4]
      · simp [h1, h2, h3]
    · simp [h1, h2]
  · simp [h1]

end
end Go.Proofs.YtbknlijpkabcnaaGreat.K
