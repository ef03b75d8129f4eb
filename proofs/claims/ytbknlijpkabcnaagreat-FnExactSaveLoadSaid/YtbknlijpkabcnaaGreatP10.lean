/- Books out of bytes: both sides. No condition. -/
import Derived.Test.YtbknlijpkabcnaaGreatP9
namespace Go.Proofs.YtbknlijpkabcnaaGreat.K
set_option linter.all false
open Go
open Classical

/-- So many numbers. -/
def rdN (b : List UInt8) : Nat → Int → Option (List Int × Int)
  | 0, a => some ([], a)
  | k + 1, a => (gn b a).bind fun p => (rdN b k p.2).map fun q => (p.1 :: q.1, q.2)
/-- So many rows of them. -/
def rdR (b : List UInt8) (w : Nat) : Nat → Int → Option (List (List Int) × Int)
  | 0, a => some ([], a)
  | k + 1, a => (rdN b w a).bind fun p => (rdR b w k p.2).map fun q => (p.1 :: q.1, q.2)
/-- How many there are, and they. -/
def sec (b : List UInt8) (w : Nat) (most : Int) (a : Int) : Option (List (List Int) × Int) :=
  (gn b a).bind fun p => if most < p.1 then none else rdR b w p.1.toNat p.2

theorem rdN_bd {b : List UInt8} : ∀ (k : Nat) (a : Int) (l : List Int) (e : Int), rdN b k a = some (l, e) → l.length = k ∧ (0 ≤ a → a ≤ b.length → 0 ≤ e ∧ e ≤ b.length) ∧ a ≤ e ∧ (∀ n ∈ l, inR n) ∧ (0 ≤ a → (b.drop a.toNat).take (e - a).toNat = encs l)
  | 0, a, l, e, h => by
    cases h
    exact ⟨rfl, fun h1 h2 => ⟨h1, h2⟩, Int.le_refl _, fun n hn => (by cases hn), fun _ => by simp [encs]⟩
  | k + 1, a, l, e, h => by
    simp only [rdN] at h
    cases hg : gn b a with
    | none => rw [hg] at h; cases h
    | some p =>
      rw [hg, Option.bind_some] at h
      cases hr : rdN b k p.2 with
      | none => rw [hr] at h; cases h
      | some q =>
        rw [hr] at h
        simp only [Option.map_some, Option.some.injEq, Prod.mk.injEq] at h
        obtain ⟨rfl, rfl⟩ := h
        obtain ⟨g1, g2, g3, g4, g5, g6, g7⟩ := gn_bd (v := p.1) (e := p.2) hg
        obtain ⟨r1, r2, r3, r4, r5⟩ := rdN_bd k p.2 q.1 q.2 hr
        refine ⟨by simp [r1], fun _ _ => r2 (by omega) g5, by omega, fun n hn => ?_, fun _ => ?_⟩
        · rcases List.mem_cons.1 hn with h | h
          · subst h; exact ⟨g1, g2⟩
          · exact r4 n h
        · have e1 : (q.2 - a).toNat = (p.2 - a).toNat + (q.2 - p.2).toNat := by omega
          have e2 : (b.drop a.toNat).drop (p.2 - a).toNat = b.drop p.2.toNat := by rw [List.drop_drop]; congr 1; omega
          rw [e1, List.take_add, g7, e2, r5 (by omega)]
          simp [encs]

theorem rdR_bd {b : List UInt8} (w : Nat) : ∀ (k : Nat) (a : Int) (l : List (List Int)) (e : Int), rdR b w k a = some (l, e) → l.length = k ∧ (∀ r ∈ l, r.length = w ∧ ∀ n ∈ r, inR n) ∧ (0 ≤ a → a ≤ b.length → 0 ≤ e ∧ e ≤ b.length) ∧ a ≤ e ∧ (0 ≤ a → (b.drop a.toNat).take (e - a).toNat = encs l.flatten)
  | 0, a, l, e, h => by
    cases h
    exact ⟨rfl, fun n hn => (by cases hn), fun h1 h2 => ⟨h1, h2⟩, Int.le_refl _, fun _ => by simp [encs]⟩
  | k + 1, a, l, e, h => by
    simp only [rdR] at h
    cases hg : rdN b w a with
    | none => rw [hg] at h; cases h
    | some p =>
      rw [hg, Option.bind_some] at h
      cases hr : rdR b w k p.2 with
      | none => rw [hr] at h; cases h
      | some q =>
        rw [hr] at h
        simp only [Option.map_some, Option.some.injEq, Prod.mk.injEq] at h
        obtain ⟨rfl, rfl⟩ := h
        obtain ⟨g1, g2, g3, g4, g5⟩ := rdN_bd w a p.1 p.2 hg
        obtain ⟨r1, r2, r3, r4, r5⟩ := rdR_bd w k p.2 q.1 q.2 hr
        refine ⟨by simp [r1], fun r hr => ?_, fun h1 h2 => r3 (g2 h1 h2).1 (g2 h1 h2).2, by omega, fun h0 => ?_⟩
        · rcases List.mem_cons.1 hr with h | h
          · subst h; exact ⟨g1, g4⟩
          · exact r2 r h
        · have e1 : (q.2 - a).toNat = (p.2 - a).toNat + (q.2 - p.2).toNat := by omega
          have e2 : (b.drop a.toNat).drop (p.2 - a).toNat = b.drop p.2.toNat := by rw [List.drop_drop]; congr 1; omega
          rw [e1, List.take_add, g5 h0, e2, r5 (by omega), List.flatten_cons, encs_append]

def cAcc (r : List Int) : MAccount := ⟨r.getD 0 0, r.getD 1 0⟩
def cIns (r : List Int) : MInstr := ⟨r.getD 0 0, r.getD 1 0⟩
def cBal (r : List Int) : MBal := ⟨r.getD 0 0, r.getD 1 0, w64 (r.getD 2 0 - 1000000000000000)⟩
def cLot (r : List Int) : MLot := ⟨r.getD 0 0, r.getD 1 0, r.getD 2 0, r.getD 3 0, r.getD 4 0⟩
def cTra (r : List Int) : MTrade := ⟨r.getD 0 0, r.getD 1 0, r.getD 2 0, r.getD 3 0, r.getD 4 0, r.getD 5 0, r.getD 6 0, r.getD 7 0⟩

def parse (b : List UInt8) : Option (MBooks × Int) :=
  (sec b 2 20 0).bind fun r1 => (sec b 2 8 r1.2).bind fun r2 => (sec b 3 160 r2.2).bind fun r3 => (sec b 5 120 r3.2).bind fun r4 => (sec b 8 30 r4.2).bind fun r5 => (gn b r5.2).bind fun p =>
    some (⟨r1.1.map cAcc, r2.1.map cIns, r3.1.map cBal, r4.1.map cLot, r5.1.map cTra, p.1⟩, p.2)
noncomputable def bksO (b : List UInt8) : Option MBooks := (parse b).bind fun q => if q.2 = b.length ∧ BkOk q.1 then some q.1 else none
def outT : Option MBooks → List MAccount × List MInstr × List MBal × List MLot × List MTrade × Int × Bool
  | some b => (b.Accounts, b.Instrs, b.Bals, b.Lots, b.Trades, b.Lot, true)
  | none => ([], [], [], [], [], 0, false)

section
variable {b : List UInt8} (hl : b.length < 1000000000)
include hl

theorem s_GetNums_eq (a : Int) (m : Nat) (hm : m ≤ 2000) (ha : 0 ≤ a ∧ a ≤ b.length) : s_GetNums b a (m : Int) = some (match rdN b m a with | some q => (q.1, q.2, true) | none => ([], 0, false)) := by
  unfold s_GetNums
  have h1 : (0 : Int) ≤ m ∧ (m : Int) ≤ 2000 := by omega
  simp only [s_l1In_eq, Option.bind_some, decide_eq_true h1, ln_map, decide_eq_true ha, not_true_eq_false, if_false]
  have key : ∀ n (i : Nat) (a : Int) (acc : List Int), i ≤ m → m - i < n → acc.length ≤ i →
      s_GetNums_L1 b (m : Int) (fun (w20, w21) => some (w21, w20, true)) n (a, acc, (i : Int)) = some (match rdN b (m - i) a with | some q => (acc ++ q.1, q.2, true) | none => ([], 0, false)) := by
    intro n
    induction n with
    | zero => intro i a acc _ h; omega
    | succ n ih =>
      intro i a acc hi hn hacc
      rw [s_GetNums_L1.eq_2]
      rcases Nat.lt_or_ge i m with h | h
      · have e1 : w64 ((i : Int) + 1) = ((i + 1 : Nat) : Int) := by rw [w64_id] <;> omega
        rw [if_pos (by omega), s_GetNum_eq b a hl, Option.bind_some, show m - i = (m - (i + 1)) + 1 by omega]
        simp only [rdN]
        unfold gnT
        cases hg : gn b a with
        | none => simp
        | some p =>
          simp only [not_true_eq_false, if_false, Option.bind_some]
          rw [if_pos (by simp only [List.length_map, List.length_singleton]; omega), e1, ih (i + 1) p.2 _ h (by omega) (by simp; omega)]
          cases rdN b (m - (i + 1)) p.2 with
          | none => rfl
          | some q => simp
      · have : i = m := by omega
        subst this
        rw [if_neg (by omega), Nat.sub_self]
        simp [rdN]
  have := key FUEL 0 a [] (Nat.zero_le _) (FUEL_gt (by omega)) (by simp)
  rw [show ((0 : Nat) : Int) = 0 from rfl, Nat.sub_zero] at this
  rw [this]
  simp

theorem s_l13Rows_eq (a : Int) (w : Nat) (hw : w ≤ 8) (most : Int) (hm : most ≤ 160) : ∃ r, s_l13Rows b a (w : Int) most = some r ∧
    (match sec b w most a with | some q => r = (q.1, q.2, true) | none => r.2.2 = false) := by
  unfold s_l13Rows sec
  rw [s_GetNum_eq b a hl, Option.bind_some]
  unfold gnT
  cases hg : gn b a with
  | none => exact ⟨([], 0, false), by simp, rfl⟩
  | some p =>
    obtain ⟨g1, g2, g3, g4, g5, g6, g7⟩ := gn_bd (v := p.1) (e := p.2) hg
    simp only [not_true_eq_false, if_false, Option.bind_some]
    by_cases hmp : most < p.1
    · rw [if_pos hmp, if_pos hmp]; exact ⟨([], 0, false), rfl, rfl⟩
    · rw [if_neg hmp, if_neg hmp]
      have key : ∀ n (i : Nat) (a : Int) (acc : List (List Int)), i ≤ p.1.toNat → p.1.toNat - i < n → acc.length ≤ i → 0 ≤ a ∧ a ≤ b.length →
          ∃ r, s_l13Rows_L1 b (w : Int) (p.1, p.2, true) (fun (w18, w19) => some (w19, w18, true)) n (a, acc, (i : Int)) = some r ∧
            (match rdR b w (p.1.toNat - i) a with | some q => r = (acc ++ q.1, q.2, true) | none => r.2.2 = false) := by
        intro n
        induction n with
        | zero => intro i a acc _ h; omega
        | succ n ih =>
          intro i a acc hi hn hacc ha
          rw [s_l13Rows_L1.eq_2]
          rcases Nat.lt_or_ge i p.1.toNat with h | h
          · have e1 : w64 ((i : Int) + 1) = ((i + 1 : Nat) : Int) := by rw [w64_id] <;> omega
            rw [if_pos (by simp only; omega), s_GetNums_eq hl a w (by omega) ha, Option.bind_some, show p.1.toNat - i = (p.1.toNat - (i + 1)) + 1 by omega]
            simp only [rdR]
            cases hg : rdN b w a with
            | none => exact ⟨(acc, 0, false), by simp, rfl⟩
            | some q =>
              obtain ⟨_, q2, _⟩ := rdN_bd w a q.1 q.2 hg
              obtain ⟨r, h1, h2⟩ := ih (i + 1) q.2 (acc ++ [q.1]) h (by omega) (by simp; omega) (q2 ha.1 ha.2)
              simp only [not_true_eq_false, if_false, Option.bind_some]
              rw [if_pos (by simp only [List.length_map, List.length_singleton]; omega), e1]
              refine ⟨r, h1, ?_⟩
              cases hr : rdR b w (p.1.toNat - (i + 1)) q.2 with
              | none => rw [hr] at h2; exact h2
              | some z => rw [hr] at h2; simpa using h2
          · have : i = p.1.toNat := by omega
            subst this
            rw [if_neg (by simp only; omega), Nat.sub_self]
            exact ⟨_, rfl, by simp [rdR]⟩
      obtain ⟨r, h1, h2⟩ := key FUEL 0 p.2 [] (Nat.zero_le _) (FUEL_gt (by omega)) (by simp) ⟨by omega, g5⟩
      rw [show ((0 : Nat) : Int) = 0 from rfl] at h1
      rw [Nat.sub_zero] at h2
      refine ⟨r, h1, ?_⟩
      cases hr : rdR b w p.1.toNat p.2 with
      | none => rw [hr] at h2; exact h2
      | some z => rw [hr] at h2; simpa using h2

end
end Go.Proofs.YtbknlijpkabcnaaGreat.K
