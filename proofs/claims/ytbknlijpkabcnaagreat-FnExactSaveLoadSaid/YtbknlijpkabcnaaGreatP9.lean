/- Books into bytes. No condition. -/
import Derived.Test.YtbknlijpkabcnaaGreatP8
namespace Go.Proofs.YtbknlijpkabcnaaGreat.K
set_option linter.all false
open Go
open Classical

/-- A loop that puts what it meets behind what it has. -/
theorem collect {α β R : Type} {l : List α} (F : Nat → List β → Int → Option R) (f : α → List β) (c d : Nat) (k : List β → Option R) (hl : l.length < 1000000000) (hc : ∀ x ∈ l, (f x).length ≤ c) (hd : d ≤ 100)
    (hs : ∀ n s (i : Nat) x, l[i]? = some x → i < l.length → F (n + 1) s (i : Int) = if (s.length + (f x).length) * d ≤ 140737488355328 then F n (s ++ f x) ((i : Int) + 1) else none)
    (he : ∀ n s, F (n + 1) s (l.length : Int) = k s) (s : List β) (hb : s.length + c * l.length ≤ 1000000000000) : F FUEL s 0 = k (s ++ l.flatMap f) := by
  rw [scan (l := l) F (fun s x k => if (s.length + (f x).length) * d ≤ 140737488355328 then k (s ++ f x) else none) k hl hs (fun s x f g hfg => by simp only [hfg]) he s]
  have key : ∀ (m : List α) (s : List β), (∀ x ∈ m, (f x).length ≤ c) → s.length + c * m.length ≤ 1000000000000 →
      goL (fun s x k => if (s.length + (f x).length) * d ≤ 140737488355328 then k (s ++ f x) else none) k m s = k (s ++ m.flatMap f) := by
    intro m
    induction m with
    | nil => intro s _ _; simp [goL]
    | cons x m ih =>
      intro s hc hb
      have hx := hc x (List.mem_cons_self ..)
      rw [List.length_cons, Nat.mul_succ] at hb
      simp only [goL]
      have hle : (s.length + (f x).length) * d ≤ 1000000000000 * 100 := Nat.mul_le_mul (by omega) hd
      rw [if_pos (by omega), ih _ (fun y hy => hc y (List.mem_cons_of_mem _ hy)) (by rw [List.length_append]; omega)]
      simp
  exact key l s hc hb

def inR (n : Int) : Prop := 0 ≤ n ∧ n < 9223372036854775808
def encs (l : List Int) : List UInt8 := l.flatMap fun n => enc n.toNat
theorem enc_le9 {n : Int} (h : inR n) : (enc n.toNat).length ≤ 9 := by
  have := enc_len 9 n.toNat (by have := (show 128 ^ 9 = 9223372036854775808 by decide); unfold inR at h; omega)
  omega
theorem encs_len : ∀ (l : List Int), (∀ n ∈ l, inR n) → (encs l).length ≤ 9 * l.length
  | [], _ => by simp [encs]
  | n :: l, h => by
    have h1 := enc_le9 (h n (List.mem_cons_self ..))
    have h2 := encs_len l fun m hm => h m (List.mem_cons_of_mem _ hm)
    unfold encs at *
    rw [List.flatMap_cons, List.length_append, List.length_cons]; omega
theorem encs_append (l m : List Int) : encs (l ++ m) = encs l ++ encs m := List.flatMap_append ..

theorem i_PutNums_eq (l : List Int) (h : ∀ n ∈ l, inR n) (hl : l.length < 1000000) : i_PutNums l = some (encs l) := by
  unfold i_PutNums g_ContainsFunc_int g_IndexFunc_int
  rw [idx_loop (l := l) (g_IndexFunc_int_L1 l _) (fun n => decide (n < 0)) (by omega) (fun n i x hx hi => ?_) (fun n => ?_), Option.bind_some, Option.bind_some]
  · have hn : ¬ (0 ≤ fi (fun n : Int => decide (n < 0)) l) := by
      rw [fi_any]
      rintro ⟨x, hx, hp⟩
      have := (h x hx).1
      simp at hp; omega
    rw [if_neg (by simp [hn])]
    rw [collect (l := l) (fun n s i => i_PutNums_L1 l (fun w20 => some w20) n (s, i)) (fun n => enc n.toNat) 9 1 (fun s => some s) (by omega) (fun n hn => enc_le9 (h n hn)) (by omega)
      (fun n s i x hx hi => ?_) (fun n s => ?_) [] (by simp; omega)]
    · simp [encs]
    · obtain ⟨e1, e2, c1, c2⟩ := ixf hi (by omega)
      have hxr := h x (List.mem_of_getElem? hx)
      rw [i_PutNums_L1.eq_2, ln_map, if_pos c1, if_pos c2, e2, hx, Option.bind_some]
      have : x = (x.toNat : Int) := by have := hxr.1; omega
      have hp := i_PutNum_eq x.toNat (by have := hxr.2; omega)
      rw [← this] at hp
      rw [hp, Option.bind_some, e1]
      simp only [List.length_map]
    · rw [i_PutNums_L1.eq_2, ln_map, if_neg (by omega)]
  · obtain ⟨e1, e2, c1, c2⟩ := ixf hi (by omega)
    rw [g_IndexFunc_int_L1.eq_2, ln_map, if_pos c1, if_pos c2, e2, hx, Option.bind_some, e1]
    simp only [i_PutNums_c1, Option.bind_some]
  · rw [g_IndexFunc_int_L1.eq_2, ln_map, if_neg (by omega)]

def nAcc (x : MAccount) : List Int := [x.No, x.Kind]
def nIns (x : MInstr) : List Int := [x.No, x.Kind]
def nBal (x : MBal) : List Int := [x.Account, x.Instr, w64 (x.Amount + 1000000000000000)]
def nLot (x : MLot) : List Int := [x.Account, x.Instr, x.No, x.Qty, x.Cost]
def nTra (x : MTrade) : List Int := [x.No, x.Buyer, x.Seller, x.Paper, x.Qty, x.Cash, x.Price, x.State]
/-- All numbers of books. -/
def nums (b : MBooks) : List Int := [(b.Accounts.length : Int)] ++ b.Accounts.flatMap nAcc ++ [(b.Instrs.length : Int)] ++ b.Instrs.flatMap nIns ++ [(b.Bals.length : Int)] ++ b.Bals.flatMap nBal ++ [(b.Lots.length : Int)] ++ b.Lots.flatMap nLot ++
  [(b.Trades.length : Int)] ++ b.Trades.flatMap nTra ++ [b.Lot]

theorem flat_len {α β : Type} (f : α → List β) (c : Nat) (l : List α) (h : ∀ x, (f x).length = c) : (l.flatMap f).length = c * l.length := by
  induction l with
  | nil => simp
  | cons x l ih => rw [List.flatMap_cons, List.length_append, ih, h, List.length_cons, Nat.mul_succ]; omega

theorem nums_ok {b : MBooks} (h : BkOk b) : (∀ n ∈ nums b, inR n) ∧ (nums b).length ≤ 2000 := by
  obtain ⟨h1, h2, h3, h4, h5, h6, _⟩ := h
  constructor
  · intro n hn
    unfold nums at hn
    simp only [List.mem_append, List.mem_singleton, List.mem_flatMap] at hn
    have a1 := h1.2; have a2 := h2.2; have a3 := h3.2; have a4 := h4.2.1; have a5 := h5.2
    unfold inR
    rcases hn with (((((((((hn | ⟨x, hx, hn⟩) | hn) | ⟨x, hx, hn⟩) | hn) | ⟨x, hx, hn⟩) | hn) | ⟨x, hx, hn⟩) | hn) | ⟨x, hx, hn⟩) | hn
    · omega
    · have := Chk_mem h1.1 x hx; unfold accForm at this; simp only [nAcc, List.mem_cons, List.not_mem_nil, or_false] at hn; omega
    · omega
    · have := Chk_mem h2.1 x hx; unfold insForm at this; simp only [nIns, List.mem_cons, List.not_mem_nil, or_false] at hn; omega
    · omega
    · have := Chk_mem h3.1 x hx; unfold balForm amt at this; simp only [nBal, List.mem_cons, List.not_mem_nil, or_false] at hn
      rw [w64_id (by omega) (by omega)] at hn; omega
    · omega
    · have := Chk_mem h4.1 x hx; unfold lotForm at this; simp only [nLot, List.mem_cons, List.not_mem_nil, or_false] at hn; omega
    · omega
    · have := Chk_mem h5.1 x hx; unfold traForm at this; simp only [nTra, List.mem_cons, List.not_mem_nil, or_false] at hn; omega
    · omega
  · unfold nums
    simp only [List.length_append, List.length_singleton, flat_len nAcc 2 _ (fun _ => rfl), flat_len nIns 2 _ (fun _ => rfl), flat_len nBal 3 _ (fun _ => rfl), flat_len nLot 5 _ (fun _ => rfl), flat_len nTra 8 _ (fun _ => rfl)]
    have a1 := h1.2; have a2 := h2.2; have a3 := h3.2; have a4 := h4.2.1; have a5 := h5.2
    omega

theorem SMB_of {b : MBooks} (h : BkOk b) : SMB b := by
  obtain ⟨h1, h2, h3, h4, h5, _⟩ := h
  have a1 := h1.2; have a2 := h2.2; have a3 := h3.2; have a4 := h4.2.1; have a5 := h5.2
  exact ⟨by omega, by omega, by omega, by omega, by omega⟩

section
variable {b : MBooks} (k : List Int → Option (List UInt8 × Bool))
theorem pk1 (hs : SMB b) (s : List Int) (h : s.length ≤ 1000000) : i_BooksPack_L1 b k FUEL (s, 0) = k (s ++ b.Accounts.flatMap nAcc) := by
  have a := hs.1
  refine collect (l := b.Accounts) (fun n s i => i_BooksPack_L1 b k n (s, i)) nAcc 2 8 k a (fun _ _ => Nat.le_refl _) (by omega) (fun n s i x hx hi => ?_) (fun n s => ?_) s (by omega)
  · obtain ⟨e1, e2, c1, c2⟩ := ixf hi a
    rw [i_BooksPack_L1.eq_2, ln_map, if_pos c1, if_pos c2, e2, hx, Option.bind_some, e1]; simp only [List.length_map]; rfl
  · rw [i_BooksPack_L1.eq_2, ln_map, if_neg (by omega)]
theorem pk2 (hs : SMB b) (s : List Int) (h : s.length ≤ 10000000000) : i_BooksPack_L2 b k FUEL (s, 0) = k (s ++ b.Instrs.flatMap nIns) := by
  have a := hs.2.1
  refine collect (l := b.Instrs) (fun n s i => i_BooksPack_L2 b k n (s, i)) nIns 2 8 k a (fun _ _ => Nat.le_refl _) (by omega) (fun n s i x hx hi => ?_) (fun n s => ?_) s (by omega)
  · obtain ⟨e1, e2, c1, c2⟩ := ixf hi a
    rw [i_BooksPack_L2.eq_2, ln_map, if_pos c1, if_pos c2, e2, hx, Option.bind_some, e1]; simp only [List.length_map]; rfl
  · rw [i_BooksPack_L2.eq_2, ln_map, if_neg (by omega)]
theorem pk3 (hs : SMB b) (s : List Int) (h : s.length ≤ 10000000000) : i_BooksPack_L3 b k FUEL (s, 0) = k (s ++ b.Bals.flatMap nBal) := by
  have a := hs.2.2.1
  refine collect (l := b.Bals) (fun n s i => i_BooksPack_L3 b k n (s, i)) nBal 3 8 k a (fun _ _ => Nat.le_refl _) (by omega) (fun n s i x hx hi => ?_) (fun n s => ?_) s (by omega)
  · obtain ⟨e1, e2, c1, c2⟩ := ixf hi a
    rw [i_BooksPack_L3.eq_2, ln_map, if_pos c1, if_pos c2, e2, hx, Option.bind_some, e1]; simp only [List.length_map]; rfl
  · rw [i_BooksPack_L3.eq_2, ln_map, if_neg (by omega)]
theorem pk4 (hs : SMB b) (s : List Int) (h : s.length ≤ 10000000000) : i_BooksPack_L4 b k FUEL (s, 0) = k (s ++ b.Lots.flatMap nLot) := by
  have a := hs.2.2.2.1
  refine collect (l := b.Lots) (fun n s i => i_BooksPack_L4 b k n (s, i)) nLot 5 8 k a (fun _ _ => Nat.le_refl _) (by omega) (fun n s i x hx hi => ?_) (fun n s => ?_) s (by omega)
  · obtain ⟨e1, e2, c1, c2⟩ := ixf hi a
    rw [i_BooksPack_L4.eq_2, ln_map, if_pos c1, if_pos c2, e2, hx, Option.bind_some, e1]; simp only [List.length_map]; rfl
  · rw [i_BooksPack_L4.eq_2, ln_map, if_neg (by omega)]
theorem pk5 (hs : SMB b) (s : List Int) (h : s.length ≤ 10000000000) : i_BooksPack_L5 b k FUEL (s, 0) = k (s ++ b.Trades.flatMap nTra) := by
  have a := hs.2.2.2.2
  refine collect (l := b.Trades) (fun n s i => i_BooksPack_L5 b k n (s, i)) nTra 8 8 k a (fun _ _ => Nat.le_refl _) (by omega) (fun n s i x hx hi => ?_) (fun n s => ?_) s (by omega)
  · obtain ⟨e1, e2, c1, c2⟩ := ixf hi a
    rw [i_BooksPack_L5.eq_2, ln_map, if_pos c1, if_pos c2, e2, hx, Option.bind_some, e1]; simp only [List.length_map]; rfl
  · rw [i_BooksPack_L5.eq_2, ln_map, if_neg (by omega)]
end

theorem i_BooksPack_eq {b : MBooks} (hs : SMB b) : i_BooksPack b = some (if BkOk b then (encs (nums b), true) else ([], false)) := by
  unfold i_BooksPack
  rw [i_BooksOk_eq hs, Option.bind_some]
  by_cases h : BkOk b
  · rw [if_pos h, decide_eq_true h, if_neg (by simp)]
    obtain ⟨n1, n2⟩ := nums_ok h
    have a1 := h.1.2; have a2 := h.2.1.2; have a3 := h.2.2.1.2; have a4 := h.2.2.2.1.2.1; have a5 := h.2.2.2.2.1.2
    have l1 := flat_len nAcc 2 b.Accounts (fun _ => rfl)
    have l2 := flat_len nIns 2 b.Instrs (fun _ => rfl)
    have l3 := flat_len nBal 3 b.Bals (fun _ => rfl)
    have l4 := flat_len nLot 5 b.Lots (fun _ => rfl)
    have l5 := flat_len nTra 8 b.Trades (fun _ => rfl)
    rw [pk1 _ hs _ (by simp)]
    simp only [ln_map, List.length_map, List.length_append, List.length_singleton, l1]
    rw [if_pos (by omega), pk2 _ hs _ (by simp only [List.length_append, List.length_singleton, l1]; omega)]
    simp only [List.length_map, List.length_append, List.length_singleton, l1, l2]
    rw [if_pos (by omega), pk3 _ hs _ (by simp only [List.length_append, List.length_singleton, l1, l2]; omega)]
    simp only [List.length_map, List.length_append, List.length_singleton, l1, l2, l3]
    rw [if_pos (by omega), pk4 _ hs _ (by simp only [List.length_append, List.length_singleton, l1, l2, l3]; omega)]
    simp only [List.length_map, List.length_append, List.length_singleton, l1, l2, l3, l4]
    rw [if_pos (by omega), pk5 _ hs _ (by simp only [List.length_append, List.length_singleton, l1, l2, l3, l4]; omega)]
    simp only [List.length_map, List.length_append, List.length_singleton, l1, l2, l3, l4, l5]
    rw [if_pos (by omega)]
    have := i_PutNums_eq (nums b) n1 (by omega)
    unfold nums at this
    rw [this]; rfl
  · rw [if_neg h, decide_eq_false h, if_pos (by simp)]

theorem s_isSeg (n : Int) : s_l15Seg n = some (decide (0 ≤ n ∧ n ≤ 19)) := by simp [s_l15Seg, s_l1In_eq]
theorem i_isSeg_eq (n : Int) : i_isSeg n = some (decide (0 ≤ n ∧ n ≤ 19)) := by simp [i_isSeg, i_in_eq]

/-- What a save is as bytes. -/
def savB (f : Int) (b : MBooks) : List UInt8 := enc f.toNat ++ encs (nums b)
theorem savB_len {f : Int} {b : MBooks} (hf : 0 ≤ f ∧ f ≤ 19) (h : BkOk b) : (savB f b).length ≤ 20000 := by
  obtain ⟨n1, n2⟩ := nums_ok h
  have h1 := encs_len (nums b) n1
  have h2 := enc_le9 (n := f) ⟨hf.1, by omega⟩
  unfold savB; rw [List.length_append]; omega

theorem i_SavePack_eq {s : MSave} (hs : SMB s.Books) : i_SavePack s = some (if BkOk s.Books ∧ (0 ≤ s.From ∧ s.From ≤ 19) then (if 9000 < (savB s.From s.Books).length then ([], false) else (sealB (savB s.From s.Books), true)) else ([], false)) := by
  unfold i_SavePack
  rw [i_BooksPack_eq hs, Option.bind_some]
  by_cases h : BkOk s.Books
  · by_cases hf : 0 ≤ s.From ∧ s.From ≤ 19
    · rw [if_pos (show BkOk s.Books ∧ (0 ≤ s.From ∧ s.From ≤ 19) from ⟨h, hf⟩), if_pos h]
      have hp := i_PutNum_eq s.From.toNat (by omega)
      rw [show (s.From.toNat : Int) = s.From by omega] at hp
      have hl := savB_len hf h
      have hl' := hl
      unfold savB at hl'
      rw [List.length_append] at hl'
      simp only [not_true_eq_false, if_false, i_isSeg_eq, Option.bind_some, decide_eq_true hf, hp, List.length_map]
      rw [if_pos (by omega)]
      show Option.bind (i_Seal (savB s.From s.Books)) _ = _
      rw [i_Seal_eq _ (by omega), Option.bind_some]
    · rw [if_neg (show ¬ (BkOk s.Books ∧ (0 ≤ s.From ∧ s.From ≤ 19)) from fun k => hf k.2), if_pos h]
      simp only [not_true_eq_false, if_false, i_isSeg_eq, Option.bind_some, decide_eq_false hf]
      simp
  · rw [if_neg (show ¬ (BkOk s.Books ∧ (0 ≤ s.From ∧ s.From ≤ 19)) from fun k => h k.1), if_neg h]
    simp

end Go.Proofs.YtbknlijpkabcnaaGreat.K
