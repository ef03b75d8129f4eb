/- LotsOk: both sides. No condition. -/
import Derived.Test.YtbknlijpkabcnaaGreatP2
namespace Go.Proofs.YtbknlijpkabcnaaGreat.K
set_option linter.all false
open Go
open Classical

theorem Chk_mem {α : Type} {form : α → Prop} {adj : α → α → Prop} {l : List α} (h : Chk form adj l) : ∀ x ∈ l, form x := by
  intro x hx
  obtain ⟨j, hj, rfl⟩ := List.mem_iff_getElem.1 hx
  exact (h j _ (List.getElem?_eq_getElem hj)).1
theorem own_mem {l : List MLot} {a i : Int} {x : MLot} : x ∈ own l a i ↔ x ∈ l ∧ x.Account = a ∧ x.Instr = i := by
  simp [own, isOwn]
theorem own_length (l : List MLot) (a i : Int) : (own l a i).length ≤ l.length := List.length_filter_le ..

theorem i_LotsOk_c1_eq (x : MLot) (l : List MLot) (hf : ∀ y ∈ l, lotForm y) (hl : l.length ≤ 1000) :
    i_LotsOk_c1 x l = some (!decide (amt (sQ (own l x.Account x.Instr)) ∧ amt (sC (own l x.Account x.Instr)))) := by
  unfold i_LotsOk_c1
  rw [i_lotsOf_eq l _ _ (by omega), Option.bind_some, i_sumLots_eq _ (fun y hy => hf y (own_mem.1 hy).1) (by have := own_length l x.Account x.Instr; omega), Option.bind_some, i_AmountOk_eq, Option.bind_some]
  simp only [i_AmountOk_eq, Option.bind_some]
  generalize sQ (own l x.Account x.Instr) = q
  generalize sC (own l x.Account x.Instr) = c
  simp only [show (-1000000000000000 ≤ q ∧ q ≤ 1000000000000000) = amt q from rfl, show (-1000000000000000 ≤ c ∧ c ≤ 1000000000000000) = amt c from rfl]
  by_cases a1 : amt q <;> by_cases a2 : amt c <;> simp [a1, a2]

theorem g_ContainsFunc_Lot_eq (l : List MLot) (hf : ∀ y ∈ l, lotForm y) (hl : l.length ≤ 1000) :
    g_ContainsFunc_Lot l l = some (decide (∃ x ∈ l, ¬ (amt (sQ (own l x.Account x.Instr)) ∧ amt (sC (own l x.Account x.Instr))))) := by
  unfold g_ContainsFunc_Lot g_IndexFunc_Lot
  rw [idx_loop (l := l) (g_IndexFunc_Lot_L1 l l _) (fun x => !decide (amt (sQ (own l x.Account x.Instr)) ∧ amt (sC (own l x.Account x.Instr)))) (by omega) (fun n j x hx hj => ?_) (fun n => ?_), Option.bind_some]
  · congr 1
    rw [decide_eq_decide, fi_any]
    simp only [Bool.not_eq_true', decide_eq_false_iff_not]
  · rw [g_IndexFunc_Lot_L1.eq_2]
    have e1 : w64 ((j : Int) + 1) = (j : Int) + 1 := by rw [w64_id] <;> omega
    have e2 : Int.toNat (j : Int) = j := by omega
    have h1 : (j : Int) < (l.length : Int) := by omega
    have h2 : (0 : Int) ≤ j := by omega
    simp only [ln_map, e1, e2, hx, Option.bind_some, i_LotsOk_c1_eq x l hf hl, h1, h2, if_true]
  · rw [g_IndexFunc_Lot_L1.eq_2]; simp [ln_map]

theorem i_LotsOk_eq (l : List MLot) (hl : l.length < 1000000000) : i_LotsOk l = some (decide (LotOk l)) := by
  unfold i_LotsOk
  rw [chk_loop (l := l) (i_LotsOk_L1 l _) lotForm lotAdj (if (120 : Int) < (l.length : Int) then some false else Option.bind (g_ContainsFunc_Lot l l) fun y31 => some (decide (¬ (y31 = true)))) (some false) hl]
  · by_cases h : Chk lotForm lotAdj l
    · rw [if_pos h]
      by_cases hm : (120 : Int) < (l.length : Int)
      · rw [if_pos hm]
        have : ¬ LotOk l := fun h => by have := h.2.1; omega
        simp [this]
      · rw [if_neg hm, g_ContainsFunc_Lot_eq l (Chk_mem h) (by omega), Option.bind_some]
        congr 1
        rw [decide_eq_decide]
        have : l.length ≤ 120 := by omega
        simp only [LotOk, h, this, true_and, decide_eq_true_eq]
        constructor
        · intro k x hx
          refine Classical.byContradiction fun hn => k ⟨x, hx, hn⟩
        · rintro k ⟨x, hx, hn⟩; exact hn (k x hx)
    · rw [if_neg h]
      have : ¬ LotOk l := fun k => h k.1
      simp [this]
  · intro n x hx
    have h0 : 0 < l.length := (List.getElem?_eq_some_iff.1 hx).1
    have e5 : w64 ((0 : Int) + 1) = 1 := by rw [w64_id] <;> omega
    rw [i_LotsOk_L1.eq_2]
    simp only [ln_map, i_lotForm_eq, Option.bind_some, Int.toNat_zero, hx, e5]
    grind
  · intro n j p x hp hx hj
    have e1 : w64 ((j : Int) + 1 - 1) = j := by rw [w64_id] <;> omega
    have e2 : w64 ((j : Int) + 1 + 1) = (j : Int) + 2 := by rw [w64_id] <;> omega
    have e3 : Int.toNat ((j : Int) + 1) = j + 1 := by omega
    have e4 : Int.toNat (j : Int) = j := by omega
    obtain ⟨r, hr, hr2⟩ := i_lotBefore_eq p x
    rw [i_LotsOk_L1.eq_2]
    simp only [ln_map, i_lotForm_eq, Option.bind_some, e1, e2, e3, e4, hx, hp, hr]
    grind
  · intro n
    rw [i_LotsOk_L1.eq_2]
    simp [ln_map]

/-- The running sums of the other side. -/
def rs (p : Option MLot) (q c : Int) : List MLot → Prop
  | [] => True
  | x :: l => lotForm x ∧ (∀ y, p = some y → lotAdj y x) ∧
      (match p with
        | some y => if y.Account = x.Account ∧ y.Instr = x.Instr then amt (q + x.Qty) ∧ amt (c + x.Cost) ∧ rs (some x) (q + x.Qty) (c + x.Cost) l else amt x.Qty ∧ amt x.Cost ∧ rs (some x) x.Qty x.Cost l
        | none => amt x.Qty ∧ amt x.Cost ∧ rs (some x) x.Qty x.Cost l)

theorem s_LotsOk_L1_eq (l : List MLot) (hl : l.length < 1000000000) : ∀ n (i : Nat) (q c : Int), i ≤ l.length → l.length - i < n → amt q → amt c →
    s_LotsOk_L1 l (fun _ => some true) n (q, c, (i : Int)) = some (decide (rs (if i = 0 then none else l[i-1]?) q c (l.drop i))) := by
  intro n
  induction n with
  | zero => intro i q c _ h; omega
  | succ n ih =>
    intro i q c hi hn hq hc
    rcases Nat.lt_or_ge i l.length with h | h
    · have hx : l[i]? = some l[i] := List.getElem?_eq_getElem h
      rw [s_LotsOk_L1.eq_2, List.drop_eq_getElem_cons h]
      generalize l[i] = x at hx ⊢
      have e1 : w64 ((i : Int) + 1) = ((i + 1 : Nat) : Int) := by rw [w64_id] <;> omega
      have e2 : Int.toNat (i : Int) = i := by omega
      have h1 : (i : Int) < (l.length : Int) := by omega
      have h2 : (0 : Int) ≤ i := by omega
      have hprev : (if i + 1 = 0 then none else l[i + 1 - 1]?) = some x := by rw [if_neg (by omega), Nat.add_sub_cancel]; exact hx
      simp only [ln_map, e1, e2, hx, Option.bind_some, s_l5Right_eq, h1, h2, if_true]
      by_cases hf : lotForm x
      · have hb := hf.2.2.2
        have w1 : w64 (0 + x.Qty) = x.Qty := by rw [w64_id] <;> omega
        have w2 : w64 (0 + x.Cost) = x.Cost := by rw [w64_id] <;> omega
        have w3 : w64 (q + x.Qty) = q + x.Qty := by unfold amt at hq; rw [w64_id] <;> omega
        have w4 : w64 (c + x.Cost) = c + x.Cost := by unfold amt at hc; rw [w64_id] <;> omega
        have IH := fun q' c' (a : amt q') (b : amt c') => ih (i + 1) q' c' h (by omega) a b
        rw [hprev] at IH
        simp only [w1, w2, w3, w4, s_AmountOk_eq, Option.bind_some, hf, decide_true, not_true_eq_false, if_false]
        rcases Nat.eq_zero_or_pos i with h0 | h0
        · subst h0
          simp only [Int.natCast_zero, Int.lt_irrefl, if_false, if_true, rs, hf]
          by_cases a1 : amt x.Qty
          · by_cases a2 : amt x.Cost
            · have := IH _ _ a1 a2
              unfold amt at a1 a2
              simp only [a1, a2, and_self, decide_true, not_true_eq_false, if_false, this, amt]
              simp
            · unfold amt at a1 a2
              simp [a1, a2, amt]
          · unfold amt at a1
            simp [a1, amt]
        · have e3 : w64 ((i : Int) - 1) = ((i - 1 : Nat) : Int) := by rw [w64_id] <;> omega
          have hpi : l[i - 1]? = some l[i - 1] := List.getElem?_eq_getElem (by omega)
          have h3 : (0 : Int) < i := by omega
          have h4 : (0 : Int) ≤ ((i - 1 : Nat) : Int) := by omega
          have h5 : ¬ ((i : Int) = 0) := by omega
          have h6 : ¬ (i = 0) := by omega
          have e4 : Int.toNat ((i - 1 : Nat) : Int) = i - 1 := by omega
          generalize l[i - 1] = p at hpi
          simp only [e3, h3, h4, h5, h6, e4, hpi, Option.bind_some, s_l5Before_eq, if_true, if_false, rs, hf]
          by_cases ha : lotAdj p x
          · by_cases k1 : p.Account = x.Account
            · by_cases k2 : p.Instr = x.Instr
              · have k3 : ¬ x.Account ≠ p.Account := fun h => h k1.symm
                have k4 : ¬ x.Instr ≠ p.Instr := fun h => h k2.symm
                by_cases a1 : amt (q + x.Qty)
                · by_cases a2 : amt (c + x.Cost)
                  · have := IH _ _ a1 a2
                    unfold amt at a1 a2
                    simp only [ha, k1, k2, decide_true, not_true_eq_false, if_false, a1, a2, and_self, this, amt, if_true, ne_eq]
                    simp [ha]
                  · unfold amt at a1 a2
                    simp [ha, k1, k2, a1, a2, amt]
                · unfold amt at a1
                  simp [ha, k1, k2, a1, amt]
              · have k4 : ¬ x.Instr = p.Instr := fun h => k2 h.symm
                by_cases a1 : amt x.Qty
                · by_cases a2 : amt x.Cost
                  · have := IH _ _ a1 a2
                    unfold amt at a1 a2
                    simp only [ha, k1, k2, k4, decide_true, not_true_eq_false, if_false, a1, a2, and_self, this, amt, if_true, ne_eq, and_false, not_false_eq_true]
                    simp [ha]
                  · unfold amt at a1 a2
                    simp [ha, k1, k2, k4, a1, a2, amt]
                · unfold amt at a1
                  simp [ha, k1, k2, k4, a1, amt]
            · have k3 : ¬ x.Account = p.Account := fun h => k1 h.symm
              by_cases a1 : amt x.Qty
              · by_cases a2 : amt x.Cost
                · have := IH _ _ a1 a2
                  unfold amt at a1 a2
                  simp only [ha, k1, k3, decide_true, not_true_eq_false, if_false, a1, a2, and_self, this, amt, if_true, ne_eq, false_and, not_false_eq_true]
                  simp [ha]
                · unfold amt at a1 a2
                  simp [ha, k1, k3, a1, a2, amt]
              · unfold amt at a1
                simp [ha, k1, k3, a1, amt]
          · simp [ha]
      · simp [hf, rs]
    · have : i = l.length := by omega
      subst this
      rw [s_LotsOk_L1.eq_2, List.drop_length]
      simp only [ln_map, Int.lt_irrefl, if_false, rs]
      exact congrArg some (@decide_eq_true _ (_) trivial).symm

theorem pLt_trans {a b c d e f : Int} (h : pLt a b c d) (g : pLt c d e f) : pLt a b e f := by unfold pLt at *; omega
/-- Not behind. -/
def lotLe (p x : MLot) : Prop := pLt p.Account p.Instr x.Account x.Instr ∨ p.Account = x.Account ∧ p.Instr = x.Instr
theorem own_append (l m : List MLot) (a i : Int) : own (l ++ m) a i = own l a i ++ own m a i := List.filter_append ..
theorem sQ_append (l m : List MLot) : sQ (l ++ m) = sQ l + sQ m := by simp [sQ]
theorem sC_append (l m : List MLot) : sC (l ++ m) = sC l + sC m := by simp [sC]
theorem own_self (x : MLot) : own [x] x.Account x.Instr = [x] := by simp [own, isOwn]

/-- The order, as a walk has it. -/
def chn {α : Type} (form : α → Prop) (adj : α → α → Prop) : Option α → List α → Prop
  | _, [] => True
  | p, x :: l => form x ∧ (∀ y, p = some y → adj y x) ∧ chn form adj (some x) l
theorem chn_iff {α : Type} {form : α → Prop} {adj : α → α → Prop} : ∀ (l : List α) (p : Option α), chn form adj p l ↔ (Chk form adj l ∧ ∀ x y, l[0]? = some x → p = some y → adj y x)
  | [], p => ⟨fun _ => ⟨fun j x h => by simp at h, fun x y h => by simp at h⟩, fun _ => trivial⟩
  | x :: l, p => by
    simp only [chn, chn_iff l (some x)]
    constructor
    · rintro ⟨h1, h2, h3, h4⟩
      refine ⟨fun j y hy => ?_, fun a b ha hb => by simp at ha; subst ha; exact h2 b hb⟩
      match j with
      | 0 => simp at hy; subst hy; exact ⟨h1, fun h => by omega⟩
      | 1 => simp at hy; exact ⟨(h3 0 y (by simpa using hy)).1, fun _ p hp => by simp at hp; subst hp; exact h4 y x (by simpa using hy) rfl⟩
      | j + 2 =>
        have := h3 (j + 1) y (by simpa using hy)
        exact ⟨this.1, fun _ p hp => this.2 (by omega) p (by simpa using hp)⟩
    · rintro ⟨h1, h2⟩
      refine ⟨(h1 0 x (by simp)).1, fun y hy => h2 x y (by simp) hy, fun j y hy => ?_, fun a b ha hb => ?_⟩
      · have := h1 (j + 1) y (by simpa using hy)
        refine ⟨this.1, fun hj p hp => this.2 (by omega) p ?_⟩
        match j, hj with
        | j + 1, _ => simpa using hp
      · cases hb
        exact (h1 1 a (by simpa using ha)).2 (by omega) x (by simp)

theorem lotLe_adj {p q x : MLot} (h : lotLe p q) (g : lotAdj q x) : lotLe p x := by
  unfold lotLe lotAdj pLt at *; omega

/-- The running sums are right just where the whole sums are. -/
theorem rs_iff : ∀ (l pre : List MLot) (p : Option MLot) (q c : Int), (∀ y ∈ pre, lotForm y) → (∀ y, p = some y → q = sQ (own pre y.Account y.Instr) ∧ c = sC (own pre y.Account y.Instr) ∧ ∀ z ∈ pre, lotLe z y) → (p = none → pre = []) →
    (rs p q c l ↔ chn lotForm lotAdj p l ∧ ∀ x ∈ l, amt (sQ (own (pre ++ l) x.Account x.Instr)) ∧ amt (sC (own (pre ++ l) x.Account x.Instr)))
  | [], pre, p, q, c, _, _, _ => by simp [rs, chn]
  | x :: l, pre, p, q, c, hf, hp, hn => by
    simp only [rs, chn]
    -- what stands ahead of x with its key
    by_cases hx : lotForm x
    · by_cases ha : ∀ y, p = some y → lotAdj y x
      · have hpre' : ∀ y ∈ pre ++ [x], lotForm y := by
          intro y hy
          rcases List.mem_append.1 hy with h | h
          · exact hf y h
          · simp at h; subst h; exact hx
        have hle : ∀ z ∈ pre ++ [x], lotLe z x := by
          intro z hz
          rcases List.mem_append.1 hz with h | h
          · cases hpp : p with
            | none => rw [hn hpp] at h; cases h
            | some y => exact lotLe_adj ((hp y hpp).2.2 z h) (ha y hpp)
          · simp at h; subst h; exact .inr ⟨rfl, rfl⟩
        have key : ∀ q' c', q' = sQ (own pre x.Account x.Instr) + x.Qty → c' = sC (own pre x.Account x.Instr) + x.Cost →
            ((amt q' ∧ amt c' ∧ rs (some x) q' c' l) ↔ (chn lotForm lotAdj (some x) l ∧ ∀ y ∈ x :: l, amt (sQ (own (pre ++ x :: l) y.Account y.Instr)) ∧ amt (sC (own (pre ++ x :: l) y.Account y.Instr)))) := by
          intro q' c' hq hc
          have e1 : q' = sQ (own (pre ++ [x]) x.Account x.Instr) := by rw [own_append, own_self, sQ_append, hq]; simp [sQ]
          have e2 : c' = sC (own (pre ++ [x]) x.Account x.Instr) := by rw [own_append, own_self, sC_append, hc]; simp [sC]
          have IH := rs_iff l (pre ++ [x]) (some x) q' c' hpre' (fun y hy => by cases hy; exact ⟨e1, e2, hle⟩) (fun h => by cases h)
          have e3 : pre ++ [x] ++ l = pre ++ x :: l := by simp
          rw [e3] at IH
          rw [IH]
          constructor
          · rintro ⟨a1, a2, a3, a4⟩
            refine ⟨a3, fun y hy => ?_⟩
            rcases List.mem_cons.1 hy with h | h
            · subst h
              by_cases hk : ∃ z ∈ l, z.Account = y.Account ∧ z.Instr = y.Instr
              · obtain ⟨z, hz, k1, k2⟩ := hk
                have := a4 z hz
                rw [k1, k2] at this; exact this
              · have e4 : own l y.Account y.Instr = [] := by
                  unfold own
                  rw [List.filter_eq_nil_iff]
                  intro z hz hown
                  simp [isOwn] at hown
                  exact hk ⟨z, hz, hown⟩
                rw [← e3, own_append, e4, List.append_nil, ← e1, ← e2]
                exact ⟨a1, a2⟩
            · exact a4 y h
          · rintro ⟨a3, a4⟩
            have hfl : ∀ y ∈ l, lotForm y := Chk_mem ((chn_iff l (some x)).1 a3).1
            have hb := sQ_bd (own l x.Account x.Instr) fun y hy => hfl y (own_mem.1 hy).1
            have hb2 := sQ_bd (own (pre ++ [x]) x.Account x.Instr) fun y hy => hpre' y (own_mem.1 hy).1
            have h0 := a4 x (List.mem_cons_self ..)
            rw [← e3, own_append, sQ_append, sC_append, ← e1, ← e2] at h0
            unfold amt at h0
            rw [← e1, ← e2] at hb2
            refine ⟨⟨by omega, by omega⟩, ⟨by omega, by omega⟩, a3, fun y hy => a4 y (List.mem_cons_of_mem _ hy)⟩
        have hgo := key
        cases hpp : p with
        | none =>
          have := hn hpp
          subst this
          have k := key x.Qty x.Cost (by simp [own, sQ]) (by simp [own, sC])
          simp only [hx, true_and]
          constructor
          · rintro ⟨_, h⟩; exact ⟨⟨fun y hy => (by cases hy), (k.1 h).1⟩, (k.1 h).2⟩
          · rintro ⟨⟨_, h1⟩, h2⟩; exact ⟨fun y hy => (by cases hy), k.2 ⟨h1, h2⟩⟩
        | some y =>
          obtain ⟨hq, hc, hl⟩ := hp y hpp
          have hay := ha y hpp
          have haa : ∀ z, some y = some z → lotAdj z x := fun z hz => by cases hz; exact hay
          simp only [hx, true_and]
          by_cases hk : y.Account = x.Account ∧ y.Instr = x.Instr
          · rw [if_pos hk]
            have k := key (q + x.Qty) (c + x.Cost) (by rw [hq, hk.1, hk.2]) (by rw [hc, hk.1, hk.2])
            constructor
            · rintro ⟨_, h⟩; exact ⟨⟨haa, (k.1 h).1⟩, (k.1 h).2⟩
            · rintro ⟨⟨_, h1⟩, h2⟩; exact ⟨haa, k.2 ⟨h1, h2⟩⟩
          · rw [if_neg hk]
            have e4 : own pre x.Account x.Instr = [] := by
              unfold own
              rw [List.filter_eq_nil_iff]
              intro z hz hown
              simp [isOwn] at hown
              have := hl z hz
              unfold lotLe pLt at this
              unfold lotAdj pLt at hay
              omega
            have k := key x.Qty x.Cost (by rw [e4]; simp [sQ]) (by rw [e4]; simp [sC])
            constructor
            · rintro ⟨_, h⟩; exact ⟨⟨haa, (k.1 h).1⟩, (k.1 h).2⟩
            · rintro ⟨⟨_, h1⟩, h2⟩; exact ⟨haa, k.2 ⟨h1, h2⟩⟩
      · simp only [ha, false_and, and_false]
    · simp only [hx, false_and]

theorem s_LotsOk_eq (l : List MLot) (hl : l.length < 1000000000) : s_LotsOk l = some (decide (LotOk l)) := by
  unfold s_LotsOk
  by_cases hm : (120 : Int) < (ln (List.map MLot.av l))
  · rw [if_pos hm]; rw [ln_map] at hm
    have : ¬ LotOk l := fun h => by have := h.2.1; omega
    simp [this]
  · rw [if_neg hm]; rw [ln_map] at hm
    have h := s_LotsOk_L1_eq l hl FUEL 0 0 0 (Nat.zero_le _) (FUEL_gt (by omega)) ⟨by omega, by omega⟩ ⟨by omega, by omega⟩
    rw [show ((0 : Nat) : Int) = 0 from rfl] at h
    rw [h]
    congr 1
    rw [decide_eq_decide, if_pos rfl, List.drop_zero, rs_iff l [] none 0 0 (fun y hy => by cases hy) (fun y hy => by cases hy) (fun _ => rfl), chn_iff]
    have : l.length ≤ 120 := by omega
    simp only [List.nil_append, LotOk, this, true_and]
    constructor
    · rintro ⟨⟨h1, _⟩, h2⟩; exact ⟨h1, h2⟩
    · rintro ⟨h1, h2⟩; exact ⟨⟨h1, fun x y _ hy => by cases hy⟩, h2⟩

end Go.Proofs.YtbknlijpkabcnaaGreat.K
