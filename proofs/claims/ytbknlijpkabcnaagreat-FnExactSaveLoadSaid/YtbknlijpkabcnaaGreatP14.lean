/- What laws compare, mark and hold. No condition. -/
import Derived.Test.YtbknlijpkabcnaaGreatP13
namespace Go.Proofs.YtbknlijpkabcnaaGreat.K
set_option linter.all false
open Go
open Classical

theorem w64s {n : Int} (h1 : 0 ≤ n) (h2 : n ≤ 1000000000000000000) : w64 n = n := w64_id (by omega) (by omega)

/-- A loop that compares two lists of one length. -/
theorem eq_loop {α : Type} {a b : List α} (F : Nat → Int → Option Bool) (ha : a.length < 1000000000) (hl : a.length = b.length)
    (hs : ∀ n (i : Nat) x y, a[i]? = some x → b[i]? = some y → i < a.length → F (n + 1) (i : Int) = if x = y then F n ((i : Int) + 1) else some false)
    (he : ∀ n, F (n + 1) (a.length : Int) = some true) : F FUEL 0 = some (decide (a = b)) := by
  have hh := all_loop (len := a.length) F (fun j => a[j]? = b[j]?) (some true) (some false) (fun n i hi => by
    have h1 : a[i]? = some a[i] := List.getElem?_eq_getElem hi
    have h2 : b[i]? = some (b[i]'(by omega)) := List.getElem?_eq_getElem _
    rw [hs n i _ _ h1 h2 hi, h1, h2]
    simp only [Option.some.injEq]; rfl) he FUEL 0 (Nat.zero_le _) (FUEL_gt (by omega))
  rw [show ((0 : Nat) : Int) = 0 from rfl] at hh
  rw [hh]
  have : (∀ j, 0 ≤ j → j < a.length → a[j]? = b[j]?) ↔ a = b := by
    constructor
    · intro h
      apply List.ext_getElem?
      intro j
      rcases Nat.lt_or_ge j a.length with h1 | h1
      · exact h j (Nat.zero_le _) h1
      · rw [List.getElem?_eq_none h1, List.getElem?_eq_none (by omega)]
    · rintro rfl j _ _; rfl
  by_cases h : a = b
  · rw [if_pos (this.2 h), decide_eq_true h]
  · rw [if_neg (fun k => h (this.1 k)), decide_eq_false h]

theorem l_eqAccount_eq (a b : MAccount) : l_eqAccount a b = some (decide (a = b)) := by
  obtain ⟨a1, a2⟩ := a; obtain ⟨b1, b2⟩ := b
  simp only [l_eqAccount, MAccount.mk.injEq]; grind
theorem l_eqInstr_eq (a b : MInstr) : l_eqInstr a b = some (decide (a = b)) := by
  obtain ⟨a1, a2⟩ := a; obtain ⟨b1, b2⟩ := b
  simp only [l_eqInstr, MInstr.mk.injEq]; grind
theorem l_eqBal_eq (a b : MBal) : l_eqBal a b = some (decide (a = b)) := by
  obtain ⟨a1, a2, a3⟩ := a; obtain ⟨b1, b2, b3⟩ := b
  simp only [l_eqBal, MBal.mk.injEq]; grind
theorem l_eqLot_eq (a b : MLot) : l_eqLot a b = some (decide (a = b)) := by
  obtain ⟨a1, a2, a3, a4, a5⟩ := a; obtain ⟨b1, b2, b3, b4, b5⟩ := b
  simp only [l_eqLot, MLot.mk.injEq]; grind
theorem l_eqTrade_eq (a b : MTrade) : l_eqTrade a b = some (decide (a = b)) := by
  obtain ⟨a1, a2, a3, a4, a5, a6, a7, a8⟩ := a; obtain ⟨b1, b2, b3, b4, b5, b6, b7, b8⟩ := b
  simp only [l_eqTrade, MTrade.mk.injEq]; grind
theorem l_eqFile_eq (a b : MFile) : l_eqFile a b = some (decide (a = b)) := by
  obtain ⟨a1, a2, a3⟩ := a; obtain ⟨b1, b2, b3⟩ := b
  simp only [l_eqFile, MFile.mk.injEq]; grind

theorem l_eqAccountS_eq (a b : List MAccount) (h : a.length < 1000000000) : l_eqAccountS a b = some (decide (a = b)) := by
  unfold l_eqAccountS
  simp only [ln_map]
  by_cases hl : a.length = b.length
  · rw [if_neg (by omega)]
    refine eq_loop (a := a) (b := b) (l_eqAccountS_L1 a b _) h hl (fun n i x y hx hy hi => ?_) (fun n => ?_)
    · obtain ⟨e1, e2, c1, c2⟩ := ixf hi h
      rw [l_eqAccountS_L1.eq_2, ln_map, if_pos c1, if_pos c2, e2, hx, Option.bind_some, hy, Option.bind_some, e1, l_eqAccount_eq, Option.bind_some]
      by_cases k : x = y
      · rw [decide_eq_true k, if_pos k, if_neg (by simp)]
      · rw [decide_eq_false k, if_neg k, if_pos (by simp)]
    · rw [l_eqAccountS_L1.eq_2, ln_map, if_neg (by omega)]
  · rw [if_pos (by omega), decide_eq_false (fun k => hl (by rw [k]))]
theorem l_eqInstrS_eq (a b : List MInstr) (h : a.length < 1000000000) : l_eqInstrS a b = some (decide (a = b)) := by
  unfold l_eqInstrS
  simp only [ln_map]
  by_cases hl : a.length = b.length
  · rw [if_neg (by omega)]
    refine eq_loop (a := a) (b := b) (l_eqInstrS_L1 a b _) h hl (fun n i x y hx hy hi => ?_) (fun n => ?_)
    · obtain ⟨e1, e2, c1, c2⟩ := ixf hi h
      rw [l_eqInstrS_L1.eq_2, ln_map, if_pos c1, if_pos c2, e2, hx, Option.bind_some, hy, Option.bind_some, e1, l_eqInstr_eq, Option.bind_some]
      by_cases k : x = y
      · rw [decide_eq_true k, if_pos k, if_neg (by simp)]
      · rw [decide_eq_false k, if_neg k, if_pos (by simp)]
    · rw [l_eqInstrS_L1.eq_2, ln_map, if_neg (by omega)]
  · rw [if_pos (by omega), decide_eq_false (fun k => hl (by rw [k]))]
theorem l_eqBalS_eq (a b : List MBal) (h : a.length < 1000000000) : l_eqBalS a b = some (decide (a = b)) := by
  unfold l_eqBalS
  simp only [ln_map]
  by_cases hl : a.length = b.length
  · rw [if_neg (by omega)]
    refine eq_loop (a := a) (b := b) (l_eqBalS_L1 a b _) h hl (fun n i x y hx hy hi => ?_) (fun n => ?_)
    · obtain ⟨e1, e2, c1, c2⟩ := ixf hi h
      rw [l_eqBalS_L1.eq_2, ln_map, if_pos c1, if_pos c2, e2, hx, Option.bind_some, hy, Option.bind_some, e1, l_eqBal_eq, Option.bind_some]
      by_cases k : x = y
      · rw [decide_eq_true k, if_pos k, if_neg (by simp)]
      · rw [decide_eq_false k, if_neg k, if_pos (by simp)]
    · rw [l_eqBalS_L1.eq_2, ln_map, if_neg (by omega)]
  · rw [if_pos (by omega), decide_eq_false (fun k => hl (by rw [k]))]
theorem l_eqLotS_eq (a b : List MLot) (h : a.length < 1000000000) : l_eqLotS a b = some (decide (a = b)) := by
  unfold l_eqLotS
  simp only [ln_map]
  by_cases hl : a.length = b.length
  · rw [if_neg (by omega)]
    refine eq_loop (a := a) (b := b) (l_eqLotS_L1 a b _) h hl (fun n i x y hx hy hi => ?_) (fun n => ?_)
    · obtain ⟨e1, e2, c1, c2⟩ := ixf hi h
      rw [l_eqLotS_L1.eq_2, ln_map, if_pos c1, if_pos c2, e2, hx, Option.bind_some, hy, Option.bind_some, e1, l_eqLot_eq, Option.bind_some]
      by_cases k : x = y
      · rw [decide_eq_true k, if_pos k, if_neg (by simp)]
      · rw [decide_eq_false k, if_neg k, if_pos (by simp)]
    · rw [l_eqLotS_L1.eq_2, ln_map, if_neg (by omega)]
  · rw [if_pos (by omega), decide_eq_false (fun k => hl (by rw [k]))]
theorem l_eqTradeS_eq (a b : List MTrade) (h : a.length < 1000000000) : l_eqTradeS a b = some (decide (a = b)) := by
  unfold l_eqTradeS
  simp only [ln_map]
  by_cases hl : a.length = b.length
  · rw [if_neg (by omega)]
    refine eq_loop (a := a) (b := b) (l_eqTradeS_L1 a b _) h hl (fun n i x y hx hy hi => ?_) (fun n => ?_)
    · obtain ⟨e1, e2, c1, c2⟩ := ixf hi h
      rw [l_eqTradeS_L1.eq_2, ln_map, if_pos c1, if_pos c2, e2, hx, Option.bind_some, hy, Option.bind_some, e1, l_eqTrade_eq, Option.bind_some]
      by_cases k : x = y
      · rw [decide_eq_true k, if_pos k, if_neg (by simp)]
      · rw [decide_eq_false k, if_neg k, if_pos (by simp)]
    · rw [l_eqTradeS_L1.eq_2, ln_map, if_neg (by omega)]
  · rw [if_pos (by omega), decide_eq_false (fun k => hl (by rw [k]))]
theorem l_eqFileS_eq (a b : List MFile) (h : a.length < 1000000000) : l_eqFileS a b = some (decide (a = b)) := by
  unfold l_eqFileS
  simp only [ln_map]
  by_cases hl : a.length = b.length
  · rw [if_neg (by omega)]
    refine eq_loop (a := a) (b := b) (l_eqFileS_L1 a b _) h hl (fun n i x y hx hy hi => ?_) (fun n => ?_)
    · obtain ⟨e1, e2, c1, c2⟩ := ixf hi h
      rw [l_eqFileS_L1.eq_2, ln_map, if_pos c1, if_pos c2, e2, hx, Option.bind_some, hy, Option.bind_some, e1, l_eqFile_eq, Option.bind_some]
      by_cases k : x = y
      · rw [decide_eq_true k, if_pos k, if_neg (by simp)]
      · rw [decide_eq_false k, if_neg k, if_pos (by simp)]
    · rw [l_eqFileS_L1.eq_2, ln_map, if_neg (by omega)]
  · rw [if_pos (by omega), decide_eq_false (fun k => hl (by rw [k]))]
theorem l_eqBooks_eq (a b : MBooks) (h : SMB a) : l_eqBooks a b = some (decide (a = b)) := by
  obtain ⟨h1, h2, h3, h4, h5⟩ := h
  obtain ⟨a1, a2, a3, a4, a5, a6⟩ := a; obtain ⟨b1, b2, b3, b4, b5, b6⟩ := b
  simp only [l_eqBooks, l_eqAccountS_eq _ _ h1, l_eqInstrS_eq _ _ h2, l_eqBalS_eq _ _ h3, l_eqLotS_eq _ _ h4, l_eqTradeS_eq _ _ h5, Option.bind_some, MBooks.mk.injEq, decide_eq_true_eq]
  grind
theorem l_eqSave_eq (a b : MSave) (h : SMB a.Books) : l_eqSave a b = some (decide (a = b)) := by
  obtain ⟨a1, a2⟩ := a; obtain ⟨b1, b2⟩ := b
  simp only [l_eqSave, l_eqBooks_eq _ _ h, Option.bind_some, MSave.mk.injEq, decide_eq_true_eq]
  grind
theorem l_eqDisk_eq (a b : MDisk) (h : a.Files.length < 1000000000) : l_eqDisk a b = some (decide (a = b)) := by
  obtain ⟨a1, a2⟩ := a; obtain ⟨b1, b2⟩ := b
  simp only [l_eqDisk, l_eqFileS_eq _ _ h, Option.bind_some, MDisk.mk.injEq, decide_eq_true_eq]
  grind

/-- Marks, one after the other. -/
def mkl {α : Type} (mk : Int → α) (w : Int) : Nat → Int → List α
  | 0, _ => []
  | n + 1, k => mk k :: mkl mk w n (k + w)
theorem mkl_len {α : Type} (mk : Int → α) (w : Int) : ∀ (n : Nat) (k : Int), (mkl mk w n k).length = n
  | 0, _ => rfl
  | n + 1, k => by simp [mkl, mkl_len mk w n]
theorem mkl_snoc {α : Type} (mk : Int → α) (w : Int) : ∀ (n : Nat) (k : Int), mkl mk w (n + 1) k = mkl mk w n k ++ [mk (k + w * n)]
  | 0, k => by simp [mkl]
  | n + 1, k => by
    have e : k + w + w * (n : Int) = k + w * ((n + 1 : Nat) : Int) := by rw [Int.natCast_add, Int.mul_add]; simp; omega
    rw [mkl, mkl_snoc mk w n (k + w), e]; rfl

theorem mark_loop {α R : Type} {N : Nat} (F : Nat → List α → Int → Int → Option R) (mk : Int → α) (w : Nat) (K : List α → Int → Option R) (hN : N < 1000000000) (hw : w ≤ 100)
    (hs : ∀ n (v : List α) (k : Int) (i : Nat), v.length = N → i < N → 0 ≤ k → k ≤ 1000000000000 → F (n + 1) v k (i : Int) = F n (v.set i (mk k)) (k + w) ((i : Int) + 1))
    (he : ∀ n (v : List α) (k : Int), v.length = N → F (n + 1) v k (N : Int) = K v k) (v : List α) (k : Int) (hv : v.length = N) (h0 : 0 ≤ k) (hk : k ≤ 100000000000) :
    F FUEL v k 0 = K (mkl mk w N k) (k + w * N) := by
  have key : ∀ n (i : Nat), i ≤ N → N - i < n → F n (mkl mk w i k ++ v.drop i) (k + w * i) (i : Int) = K (mkl mk w N k) (k + w * N) := by
    intro n
    induction n with
    | zero => intro i _ h; omega
    | succ n ih =>
      intro i hi hn
      have hlen : (mkl mk w i k ++ v.drop i).length = N := by rw [List.length_append, mkl_len, List.length_drop, hv]; omega
      have hwi : (w : Int) * i ≤ 100000000000 := by
        have : w * i ≤ 100 * 1000000000 := Nat.mul_le_mul hw (by omega)
        have h2 : ((w * i : Nat) : Int) = (w : Int) * i := Int.natCast_mul ..
        omega
      have hwi0 : 0 ≤ (w : Int) * i := Int.mul_nonneg (by omega) (by omega)
      rcases Nat.lt_or_ge i N with h | h
      · rw [hs n _ _ i hlen h (by omega) (by omega)]
        have e1 : (mkl mk w i k ++ v.drop i).set i (mk (k + w * i)) = mkl mk w (i + 1) k ++ v.drop (i + 1) := by
          rw [mkl_snoc, List.set_append_right _ _ (by rw [mkl_len]; omega), mkl_len, Nat.sub_self, List.drop_eq_getElem_cons (by omega : i < v.length), List.append_assoc]
          rfl
        have e2 : k + w * i + w = k + w * ((i + 1 : Nat) : Int) := by rw [Int.natCast_add, Int.mul_add]; simp; omega
        rw [e1, e2]
        exact ih (i + 1) h (by omega)
      · have : i = N := by omega
        subst this
        rw [he n _ _ hlen, ← hv, List.drop_length, List.append_nil]
  have := key FUEL 0 (Nat.zero_le _) (FUEL_gt (by omega))
  simpa [mkl] using this

theorem held_loop {α : Type} (F : Nat → Int → Int → Option Int) (mk : Int → α) (w : Nat) (N : Nat) (k0 : Int) (hN : N < 1000000000) (hw : w ≤ 100) (h0 : 0 ≤ k0) (hk : k0 ≤ 100000000000)
    (hs : ∀ n (k : Int) (i : Nat), (mkl mk w N k0)[i]? = some (mk k) → i < N → 0 ≤ k → k ≤ 1000000000000 → F (n + 1) k (i : Int) = F n (k + w) ((i : Int) + 1))
    (he : ∀ n (k : Int), F (n + 1) k (N : Int) = some k) : F FUEL k0 0 = some (k0 + w * N) := by
  have hget : ∀ (m i : Nat) (k : Int), i < m → (mkl mk w m k)[i]? = some (mk (k + w * i)) := by
    intro m
    induction m with
    | zero => intro i k h; omega
    | succ m ih =>
      intro i k h
      match i with
      | 0 => simp [mkl]
      | i + 1 =>
        rw [mkl, List.getElem?_cons_succ, ih i (k + w) (by omega)]
        congr 2; rw [Int.natCast_add, Int.mul_add]; simp; omega
  have key : ∀ n (i : Nat), i ≤ N → N - i < n → F n (k0 + w * i) (i : Int) = some (k0 + w * N) := by
    intro n
    induction n with
    | zero => intro i _ h; omega
    | succ n ih =>
      intro i hi hn
      have hwi : (w : Int) * i ≤ 100000000000 := by
        have : w * i ≤ 100 * 1000000000 := Nat.mul_le_mul hw (by omega)
        have h2 : ((w * i : Nat) : Int) = (w : Int) * i := Int.natCast_mul ..
        omega
      have hwi0 : 0 ≤ (w : Int) * i := Int.mul_nonneg (by omega) (by omega)
      rcases Nat.lt_or_ge i N with h | h
      · rw [hs n _ i (hget N i k0 h) h (by omega) (by omega)]
        have e2 : k0 + w * i + w = k0 + w * ((i + 1 : Nat) : Int) := by rw [Int.natCast_add, Int.mul_add]; simp; omega
        rw [e2]
        exact ih (i + 1) h (by omega)
      · have : i = N := by omega
        subst this
        rw [he]
  have := key FUEL 0 (Nat.zero_le _) (FUEL_gt (by omega))
  simpa using this

def mkAccount (k : Int) : MAccount := ⟨k, k + 1⟩
theorem l_markAccountS_eq (l : List MAccount) (k : Int) (h : l.length < 1000000000) (h0 : 0 ≤ k) (hk : k ≤ 100000000000) : l_markAccountS l k = some (k + 2 * l.length, mkl mkAccount 2 l.length k) := by
  unfold l_markAccountS
  refine mark_loop (N := l.length) (fun n v k i => l_markAccountS_L1 _ n (v, k, i)) mkAccount 2 (fun v k => some (k, v)) h (by omega) (fun n v k i hv hi k0 k1 => ?_) (fun n v k hv => ?_) l k rfl h0 hk
  · obtain ⟨e1, e2, c1, c2⟩ := ixf hi h
    have u1 : w64 (k + 1) = k + 1 := w64s (by omega) (by omega)
    have u2 : w64 (k + 2) = k + 2 := w64s (by omega) (by omega)
    have z1 : k + 1 + 1 = k + 2 := by omega
    have hx : v[i]? = some (v[i]'(by omega)) := List.getElem?_eq_getElem _
    have hi' : i < v.length := by omega
    have c1' : (i : Int) < (v.length : Int) := by omega
    rw [l_markAccountS_L1.eq_2]
    simp only [ln_map, List.length_set, c1', c2, and_self, if_true, e2, hx, Option.bind_some, List.getElem?_set_self hi', List.set_set, e1, u1, u2, z1]
    rfl
  · rw [l_markAccountS_L1.eq_2, ln_map, if_neg (by omega)]
theorem l_heldAccountS_eq (n : Nat) (k : Int) (h : n < 1000000000) (h0 : 0 ≤ k) (hk : k ≤ 100000000000) : l_heldAccountS (mkl mkAccount 2 n k) k = some (k + 2 * n) := by
  unfold l_heldAccountS
  refine held_loop (fun m q i => l_heldAccountS_L1 (mkl mkAccount 2 n k) _ m (q, i)) mkAccount 2 n k h (by omega) h0 hk (fun m k i hx hi k0 k1 => ?_) (fun m q => ?_)
  · obtain ⟨e1, e2, c1, c2⟩ := ixf hi h
    have u1 : w64 (k + 1) = k + 1 := w64s (by omega) (by omega)
    have u2 : w64 (k + 2) = k + 2 := w64s (by omega) (by omega)
    have z1 : k + 1 + 1 = k + 2 := by omega
    rw [l_heldAccountS_L1.eq_2]
    simp only [ln_map, mkl_len, c1, c2, if_true, e2, show (((2 : Nat) : Int)) = 2 from rfl] at hx ⊢
    rw [hx]
    simp only [Option.bind_some, mkAccount, e1, u1, u2, z1, ne_eq, not_true_eq_false, if_false]
  · rw [l_heldAccountS_L1.eq_2, ln_map, mkl_len, if_neg (by omega)]
def mkInstr (k : Int) : MInstr := ⟨k, k + 1⟩
theorem l_markInstrS_eq (l : List MInstr) (k : Int) (h : l.length < 1000000000) (h0 : 0 ≤ k) (hk : k ≤ 100000000000) : l_markInstrS l k = some (k + 2 * l.length, mkl mkInstr 2 l.length k) := by
  unfold l_markInstrS
  refine mark_loop (N := l.length) (fun n v k i => l_markInstrS_L1 _ n (v, k, i)) mkInstr 2 (fun v k => some (k, v)) h (by omega) (fun n v k i hv hi k0 k1 => ?_) (fun n v k hv => ?_) l k rfl h0 hk
  · obtain ⟨e1, e2, c1, c2⟩ := ixf hi h
    have u1 : w64 (k + 1) = k + 1 := w64s (by omega) (by omega)
    have u2 : w64 (k + 2) = k + 2 := w64s (by omega) (by omega)
    have z1 : k + 1 + 1 = k + 2 := by omega
    have hx : v[i]? = some (v[i]'(by omega)) := List.getElem?_eq_getElem _
    have hi' : i < v.length := by omega
    have c1' : (i : Int) < (v.length : Int) := by omega
    rw [l_markInstrS_L1.eq_2]
    simp only [ln_map, List.length_set, c1', c2, and_self, if_true, e2, hx, Option.bind_some, List.getElem?_set_self hi', List.set_set, e1, u1, u2, z1]
    rfl
  · rw [l_markInstrS_L1.eq_2, ln_map, if_neg (by omega)]
theorem l_heldInstrS_eq (n : Nat) (k : Int) (h : n < 1000000000) (h0 : 0 ≤ k) (hk : k ≤ 100000000000) : l_heldInstrS (mkl mkInstr 2 n k) k = some (k + 2 * n) := by
  unfold l_heldInstrS
  refine held_loop (fun m q i => l_heldInstrS_L1 (mkl mkInstr 2 n k) _ m (q, i)) mkInstr 2 n k h (by omega) h0 hk (fun m k i hx hi k0 k1 => ?_) (fun m q => ?_)
  · obtain ⟨e1, e2, c1, c2⟩ := ixf hi h
    have u1 : w64 (k + 1) = k + 1 := w64s (by omega) (by omega)
    have u2 : w64 (k + 2) = k + 2 := w64s (by omega) (by omega)
    have z1 : k + 1 + 1 = k + 2 := by omega
    rw [l_heldInstrS_L1.eq_2]
    simp only [ln_map, mkl_len, c1, c2, if_true, e2, show (((2 : Nat) : Int)) = 2 from rfl] at hx ⊢
    rw [hx]
    simp only [Option.bind_some, mkInstr, e1, u1, u2, z1, ne_eq, not_true_eq_false, if_false]
  · rw [l_heldInstrS_L1.eq_2, ln_map, mkl_len, if_neg (by omega)]
def mkBal (k : Int) : MBal := ⟨k, k + 1, k + 2⟩
theorem l_markBalS_eq (l : List MBal) (k : Int) (h : l.length < 1000000000) (h0 : 0 ≤ k) (hk : k ≤ 100000000000) : l_markBalS l k = some (k + 3 * l.length, mkl mkBal 3 l.length k) := by
  unfold l_markBalS
  refine mark_loop (N := l.length) (fun n v k i => l_markBalS_L1 _ n (v, k, i)) mkBal 3 (fun v k => some (k, v)) h (by omega) (fun n v k i hv hi k0 k1 => ?_) (fun n v k hv => ?_) l k rfl h0 hk
  · obtain ⟨e1, e2, c1, c2⟩ := ixf hi h
    have u1 : w64 (k + 1) = k + 1 := w64s (by omega) (by omega)
    have u2 : w64 (k + 2) = k + 2 := w64s (by omega) (by omega)
    have u3 : w64 (k + 3) = k + 3 := w64s (by omega) (by omega)
    have z1 : k + 1 + 1 = k + 2 := by omega
    have z2 : k + 2 + 1 = k + 3 := by omega
    have hx : v[i]? = some (v[i]'(by omega)) := List.getElem?_eq_getElem _
    have hi' : i < v.length := by omega
    have c1' : (i : Int) < (v.length : Int) := by omega
    rw [l_markBalS_L1.eq_2]
    simp only [ln_map, List.length_set, c1', c2, and_self, if_true, e2, hx, Option.bind_some, List.getElem?_set_self hi', List.set_set, e1, u1, u2, u3, z1, z2]
    rfl
  · rw [l_markBalS_L1.eq_2, ln_map, if_neg (by omega)]
theorem l_heldBalS_eq (n : Nat) (k : Int) (h : n < 1000000000) (h0 : 0 ≤ k) (hk : k ≤ 100000000000) : l_heldBalS (mkl mkBal 3 n k) k = some (k + 3 * n) := by
  unfold l_heldBalS
  refine held_loop (fun m q i => l_heldBalS_L1 (mkl mkBal 3 n k) _ m (q, i)) mkBal 3 n k h (by omega) h0 hk (fun m k i hx hi k0 k1 => ?_) (fun m q => ?_)
  · obtain ⟨e1, e2, c1, c2⟩ := ixf hi h
    have u1 : w64 (k + 1) = k + 1 := w64s (by omega) (by omega)
    have u2 : w64 (k + 2) = k + 2 := w64s (by omega) (by omega)
    have u3 : w64 (k + 3) = k + 3 := w64s (by omega) (by omega)
    have z1 : k + 1 + 1 = k + 2 := by omega
    have z2 : k + 2 + 1 = k + 3 := by omega
    rw [l_heldBalS_L1.eq_2]
    simp only [ln_map, mkl_len, c1, c2, if_true, e2, show (((3 : Nat) : Int)) = 3 from rfl] at hx ⊢
    rw [hx]
    simp only [Option.bind_some, mkBal, e1, u1, u2, u3, z1, z2, ne_eq, not_true_eq_false, if_false]
  · rw [l_heldBalS_L1.eq_2, ln_map, mkl_len, if_neg (by omega)]
def mkLot (k : Int) : MLot := ⟨k, k + 1, k + 2, k + 3, k + 4⟩
theorem l_markLotS_eq (l : List MLot) (k : Int) (h : l.length < 1000000000) (h0 : 0 ≤ k) (hk : k ≤ 100000000000) : l_markLotS l k = some (k + 5 * l.length, mkl mkLot 5 l.length k) := by
  unfold l_markLotS
  refine mark_loop (N := l.length) (fun n v k i => l_markLotS_L1 _ n (v, k, i)) mkLot 5 (fun v k => some (k, v)) h (by omega) (fun n v k i hv hi k0 k1 => ?_) (fun n v k hv => ?_) l k rfl h0 hk
  · obtain ⟨e1, e2, c1, c2⟩ := ixf hi h
    have u1 : w64 (k + 1) = k + 1 := w64s (by omega) (by omega)
    have u2 : w64 (k + 2) = k + 2 := w64s (by omega) (by omega)
    have u3 : w64 (k + 3) = k + 3 := w64s (by omega) (by omega)
    have u4 : w64 (k + 4) = k + 4 := w64s (by omega) (by omega)
    have u5 : w64 (k + 5) = k + 5 := w64s (by omega) (by omega)
    have z1 : k + 1 + 1 = k + 2 := by omega
    have z2 : k + 2 + 1 = k + 3 := by omega
    have z3 : k + 3 + 1 = k + 4 := by omega
    have z4 : k + 4 + 1 = k + 5 := by omega
    have hx : v[i]? = some (v[i]'(by omega)) := List.getElem?_eq_getElem _
    have hi' : i < v.length := by omega
    have c1' : (i : Int) < (v.length : Int) := by omega
    rw [l_markLotS_L1.eq_2]
    simp only [ln_map, List.length_set, c1', c2, and_self, if_true, e2, hx, Option.bind_some, List.getElem?_set_self hi', List.set_set, e1, u1, u2, u3, u4, u5, z1, z2, z3, z4]
    rfl
  · rw [l_markLotS_L1.eq_2, ln_map, if_neg (by omega)]
theorem l_heldLotS_eq (n : Nat) (k : Int) (h : n < 1000000000) (h0 : 0 ≤ k) (hk : k ≤ 100000000000) : l_heldLotS (mkl mkLot 5 n k) k = some (k + 5 * n) := by
  unfold l_heldLotS
  refine held_loop (fun m q i => l_heldLotS_L1 (mkl mkLot 5 n k) _ m (q, i)) mkLot 5 n k h (by omega) h0 hk (fun m k i hx hi k0 k1 => ?_) (fun m q => ?_)
  · obtain ⟨e1, e2, c1, c2⟩ := ixf hi h
    have u1 : w64 (k + 1) = k + 1 := w64s (by omega) (by omega)
    have u2 : w64 (k + 2) = k + 2 := w64s (by omega) (by omega)
    have u3 : w64 (k + 3) = k + 3 := w64s (by omega) (by omega)
    have u4 : w64 (k + 4) = k + 4 := w64s (by omega) (by omega)
    have u5 : w64 (k + 5) = k + 5 := w64s (by omega) (by omega)
    have z1 : k + 1 + 1 = k + 2 := by omega
    have z2 : k + 2 + 1 = k + 3 := by omega
    have z3 : k + 3 + 1 = k + 4 := by omega
    have z4 : k + 4 + 1 = k + 5 := by omega
    rw [l_heldLotS_L1.eq_2]
    simp only [ln_map, mkl_len, c1, c2, if_true, e2, show (((5 : Nat) : Int)) = 5 from rfl] at hx ⊢
    rw [hx]
    simp only [Option.bind_some, mkLot, e1, u1, u2, u3, u4, u5, z1, z2, z3, z4, ne_eq, not_true_eq_false, if_false]
  · rw [l_heldLotS_L1.eq_2, ln_map, mkl_len, if_neg (by omega)]
def mkTrade (k : Int) : MTrade := ⟨k, k + 1, k + 2, k + 3, k + 4, k + 5, k + 6, k + 7⟩
theorem l_markTradeS_eq (l : List MTrade) (k : Int) (h : l.length < 1000000000) (h0 : 0 ≤ k) (hk : k ≤ 100000000000) : l_markTradeS l k = some (k + 8 * l.length, mkl mkTrade 8 l.length k) := by
  unfold l_markTradeS
  refine mark_loop (N := l.length) (fun n v k i => l_markTradeS_L1 _ n (v, k, i)) mkTrade 8 (fun v k => some (k, v)) h (by omega) (fun n v k i hv hi k0 k1 => ?_) (fun n v k hv => ?_) l k rfl h0 hk
  · obtain ⟨e1, e2, c1, c2⟩ := ixf hi h
    have u1 : w64 (k + 1) = k + 1 := w64s (by omega) (by omega)
    have u2 : w64 (k + 2) = k + 2 := w64s (by omega) (by omega)
    have u3 : w64 (k + 3) = k + 3 := w64s (by omega) (by omega)
    have u4 : w64 (k + 4) = k + 4 := w64s (by omega) (by omega)
    have u5 : w64 (k + 5) = k + 5 := w64s (by omega) (by omega)
    have u6 : w64 (k + 6) = k + 6 := w64s (by omega) (by omega)
    have u7 : w64 (k + 7) = k + 7 := w64s (by omega) (by omega)
    have u8 : w64 (k + 8) = k + 8 := w64s (by omega) (by omega)
    have z1 : k + 1 + 1 = k + 2 := by omega
    have z2 : k + 2 + 1 = k + 3 := by omega
    have z3 : k + 3 + 1 = k + 4 := by omega
    have z4 : k + 4 + 1 = k + 5 := by omega
    have z5 : k + 5 + 1 = k + 6 := by omega
    have z6 : k + 6 + 1 = k + 7 := by omega
    have z7 : k + 7 + 1 = k + 8 := by omega
    have hx : v[i]? = some (v[i]'(by omega)) := List.getElem?_eq_getElem _
    have hi' : i < v.length := by omega
    have c1' : (i : Int) < (v.length : Int) := by omega
    rw [l_markTradeS_L1.eq_2]
    simp only [ln_map, List.length_set, c1', c2, and_self, if_true, e2, hx, Option.bind_some, List.getElem?_set_self hi', List.set_set, e1, u1, u2, u3, u4, u5, u6, u7, u8, z1, z2, z3, z4, z5, z6, z7]
    rfl
  · rw [l_markTradeS_L1.eq_2, ln_map, if_neg (by omega)]
theorem l_heldTradeS_eq (n : Nat) (k : Int) (h : n < 1000000000) (h0 : 0 ≤ k) (hk : k ≤ 100000000000) : l_heldTradeS (mkl mkTrade 8 n k) k = some (k + 8 * n) := by
  unfold l_heldTradeS
  refine held_loop (fun m q i => l_heldTradeS_L1 (mkl mkTrade 8 n k) _ m (q, i)) mkTrade 8 n k h (by omega) h0 hk (fun m k i hx hi k0 k1 => ?_) (fun m q => ?_)
  · obtain ⟨e1, e2, c1, c2⟩ := ixf hi h
    have u1 : w64 (k + 1) = k + 1 := w64s (by omega) (by omega)
    have u2 : w64 (k + 2) = k + 2 := w64s (by omega) (by omega)
    have u3 : w64 (k + 3) = k + 3 := w64s (by omega) (by omega)
    have u4 : w64 (k + 4) = k + 4 := w64s (by omega) (by omega)
    have u5 : w64 (k + 5) = k + 5 := w64s (by omega) (by omega)
    have u6 : w64 (k + 6) = k + 6 := w64s (by omega) (by omega)
    have u7 : w64 (k + 7) = k + 7 := w64s (by omega) (by omega)
    have u8 : w64 (k + 8) = k + 8 := w64s (by omega) (by omega)
    have z1 : k + 1 + 1 = k + 2 := by omega
    have z2 : k + 2 + 1 = k + 3 := by omega
    have z3 : k + 3 + 1 = k + 4 := by omega
    have z4 : k + 4 + 1 = k + 5 := by omega
    have z5 : k + 5 + 1 = k + 6 := by omega
    have z6 : k + 6 + 1 = k + 7 := by omega
    have z7 : k + 7 + 1 = k + 8 := by omega
    rw [l_heldTradeS_L1.eq_2]
    simp only [ln_map, mkl_len, c1, c2, if_true, e2, show (((8 : Nat) : Int)) = 8 from rfl] at hx ⊢
    rw [hx]
    simp only [Option.bind_some, mkTrade, e1, u1, u2, u3, u4, u5, u6, u7, u8, z1, z2, z3, z4, z5, z6, z7, ne_eq, not_true_eq_false, if_false]
  · rw [l_heldTradeS_L1.eq_2, ln_map, mkl_len, if_neg (by omega)]
end Go.Proofs.YtbknlijpkabcnaaGreat.K
